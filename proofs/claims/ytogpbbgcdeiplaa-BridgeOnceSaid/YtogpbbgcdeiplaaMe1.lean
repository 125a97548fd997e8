/-
  Walks by computing. No condition.
-/
import Derived.Test.YtogpbbgcdeiplaaSa6
set_option linter.all false
set_option maxRecDepth 100000
set_option maxHeartbeats 1000000
namespace Go.Pw
open Go Go.Px Go.RowKit
attribute [local irreducible] shaF

def emp : Nat → List Int
  | 0 => List.replicate 32 0
  | k + 1 => shaF ([1] ++ emp k ++ emp k)
theorem emp_length : ∀ k, (emp k).length = 32
  | 0 => by simp [emp]
  | k + 1 => by rw [emp]; exact shaF_length _
theorem shl1' : ∀ n : Nat, n ≤ 16 → shlV .i64 1 (n : Int) = 2 ^ n := by
  intro n h
  have : ∀ n : Fin 17, shlV .i64 1 ((n.val : Nat) : Int) = 2 ^ n.val := by decide
  exact this ⟨n, by omega⟩
theorem shl1 {d : Int} (h0 : 0 ≤ d) (h1 : d ≤ 16) : shlV .i64 1 d = 2 ^ d.toNat := by
  have := shl1' d.toNat (by omega)
  rwa [Int.toNat_of_nonneg h0] at this
def askV (d i n : Int) : Int := if 0 ≤ d ∧ d ≤ 16 ∧ 0 ≤ i ∧ i < 2 ^ d.toNat then (if 2 ^ d.toNat < n then 4 else 0) else 2
def nl : Nat → List (List Int)
  | 0 => List.replicate 17 (List.replicate 32 0)
  | k + 1 => (nl k).set k (emp k)
theorem nl_length : ∀ k, (nl k).length = 17
  | 0 => by simp [nl]
  | k + 1 => by rw [nl, List.length_set]; exact nl_length k
theorem nl_all : ∀ k, ∀ a ∈ nl k, a.length = 32
  | 0 => fun a ha => by rw [List.eq_of_mem_replicate ha]; simp
  | k + 1 => fun a ha => by
    rcases List.mem_or_eq_of_mem_set ha with h | h
    · exact nl_all k a h
    · rw [h]; exact emp_length k
theorem nl_get : ∀ k j, j < k → k ≤ 17 → (nl k).getD j (List.replicate 32 0) = emp j
  | 0, j, h, _ => by omega
  | k + 1, j, h, hk => by
    rw [nl]
    by_cases e : j = k
    · subst e
      have := nl_length j
      simp [List.getD_eq_getElem?_getD, List.getElem?_set, this, show j < 17 by omega]
    · have := nl_get k j (by omega) (by omega)
      rw [← this]
      simp [List.getD_eq_getElem?_getD, List.getElem?_set, show ¬ k = j by omega]

noncomputable def cd_asked : Code := (Go.Proofs.Try.f113.body).getD .skip
def sg_asked : List Arg := [.one (.int .i64), .one (.int .i64), .one (.int .i64)]
def pr_asked : SgT FMp sg_asked → List Prop
  | (d, (i, (n, ()))) => (fun (d i n : Int) => ([] : List Prop)) d i n
def ps_asked : SgT FMp sg_asked → PS FMp
  | (d, (i, (n, ()))) => (fun (d i n : Int) => (⟨Unit, fun y => [], fun y => one (.int .i64 (askV d i n)), fun y => [], fun y => []⟩ : PS FMp)) d i n
def la_asked : SgT FMp sg_asked → List (Nat × (SS FMp → HA FMp))
  | (d, (i, (n, ()))) => (fun (d i n : Int) => ([] : List (Nat × (SS FMp → HA FMp)))) d i n
def ca_asked : SgT FMp sg_asked → List (Nat × (SS FMp → HA FMp))
  | (d, (i, (n, ()))) => (fun (d i n : Int) => ([] : List (Nat × (SS FMp → HA FMp)))) d i n
theorem vc_asked (d i n : Int) : Vc (vc (FM := FMp) Xp 26 [] (la_asked (d, (i, (n, ())))) (ca_asked (d, (i, (n, ())))) [] [136] [.tmp 6] sg_asked pr_asked ps_asked cd_asked 300 (d, (i, (n, ())))) := by
  refine ⟨Eq.mpr (β := ((!(decide ((0 : Int) ≤ d) && decide (d ≤ (16 : Int))) || decide (i < (0 : Int))) = false → (0 : Int) ≤ d) ∧ ((!(decide ((0 : Int) ≤ d) && decide (d ≤ (16 : Int))) || decide (i < (0 : Int)) || decide (shlV IntKind.i64 (1 : Int) d ≤ i)) = true → ∃ (y : Unit), (2 : Int) = askV d i n) ∧ ((!(decide ((0 : Int) ≤ d) && decide (d ≤ (16 : Int))) || decide (i < (0 : Int)) || decide (shlV IntKind.i64 (1 : Int) d ≤ i)) = false → (0 : Int) ≤ d ∧ (decide (shlV IntKind.i64 (1 : Int) d < n) = true → ∃ (y : Unit), (4 : Int) = askV d i n) ∧ (decide (shlV IntKind.i64 (1 : Int) d < n) = false → ∃ (y : Unit), (0 : Int) = askV d i n))) (by kernel_rfl) ?_⟩
  simp only [imin, imax, decide_eq_true_eq, decide_eq_false_iff_not, Prod.forall, Prod.exists, exists_eq_left', exists_eq_left, exists_and_left, exists_and_right, exists_eq_right, exists_eq, exists_eq', true_and, and_true, forall_const, exists_const, eq_self, Bool.not_eq_true, Bool.not_eq_eq_eq_not, Bool.not_true, Bool.not_false, Value.slice.injEq, Option.getD_some]
  by_cases h0 : 0 ≤ d
  · by_cases h1 : d ≤ 16
    · rw [shl1 h0 h1]
      by_cases h2 : i < 0
      · simp [askV, h0, h1, h2, show ¬ 0 ≤ i by omega]
      · by_cases h3 : i < 2 ^ d.toNat
        · simp [askV, h0, h1, h2, h3, show 0 ≤ i by omega, show ¬ (2 ^ d.toNat ≤ i) by omega]
        · simp [askV, h0, h1, h2, h3, show 0 ≤ i by omega, show 2 ^ d.toNat ≤ i by omega]
    · simp [askV, h0, h1]
  · simp [askV, h0]
noncomputable def con_asked : Con Xp.P FMp := ⟨113, sg_asked, pr_asked, ps_asked, vc_ok (La := la_asked) (Ca := ca_asked) 300 (fn := Go.Proofs.Try.f113) (by kernel_rfl) (c := cd_asked) (by kernel_rfl) (by kernel_rfl) (by kernel_rfl) (by kernel_rfl) (fun ⟨d, ⟨i, ⟨n, ⟨⟩⟩⟩⟩ => vc_asked d i n)⟩
noncomputable def cd_none_ : Code := (Go.Proofs.Try.f114.body).getD .skip
def sg_none_ : List Arg := [.one (.int .i64)]
def pr_none_ : SgT FMp sg_none_ → List Prop
  | (d, ()) => (fun (d : Int) => ([0 ≤ d, d ≤ 16] : List Prop)) d
def ps_none_ : SgT FMp sg_none_ → PS FMp
  | (d, ()) => (fun (d : Int) => (⟨Unit, fun y => [], fun y => .v (.ag [.f 0 (nl (d.toNat + 1)) 17]), fun y => [], fun y => [(nl (d.toNat + 1)).length = 17, ∀ a ∈ nl (d.toNat + 1), a.length = 32]⟩ : PS FMp)) d
def la_none_ : SgT FMp sg_none_ → List (Nat × (SS FMp → HA FMp))
  | (d, ()) => (fun (d : Int) => ([(14500002, fun S => ⟨Int × (List Int) × (List (List Int)), fun y => [], fun n y => [(3, some (one (.int .i64 (y.1))))], fun n y => setId (setId S.m 5 (zz .u8 y.2.1 32)) 2 [.f 0 y.2.2 17], fun y => [0 ≤ y.1, y.1 ≤ d, y.2.1 = emp y.1.toNat, y.2.2 = nl y.1.toNat], fun y => (d - y.1).toNat⟩)] : List (Nat × (SS FMp → HA FMp)))) d
def ca_none_ : SgT FMp sg_none_ → List (Nat × (SS FMp → HA FMp))
  | (d, ()) => (fun (d : Int) => ([] : List (Nat × (SS FMp → HA FMp)))) d
theorem vc_none_ (d : Int) : Vc (vc (FM := FMp) Xp 16 [con_pair] (la_none_ (d, ())) (ca_none_ (d, ())) [] [137, 144] [.cell 2 191] sg_none_ pr_none_ ps_none_ cd_none_ 300 (d, ())) := by
  refine ⟨Eq.mpr (β := (0 : Int) ≤ d → d ≤ (16 : Int) → ∀ (b b b bD bl : Nat) (r : Loop) (b : Nat), (∃ (y : Int × List Int × List (List Int)), (0 : Int) = y.1 ∧ List.replicate (32 : Nat) (0 : Int) = y.2.1 ∧ (32 : Nat) = (32 : Nat) ∧ r = r ∧ List.replicate (17 : Nat) (List.replicate (32 : Nat) (0 : Int)) = y.2.2 ∧ (17 : Nat) = (17 : Nat) ∧ List.replicate (17 : Nat) (List.replicate (32 : Nat) (0 : Int)) = List.replicate (17 : Nat) (List.replicate (32 : Nat) (0 : Int)) ∧ (17 : Nat) = (17 : Nat) ∧ d = d ∧ (0 : Int) ≤ y.1 ∧ y.1 ≤ d ∧ y.2.1 = emp y.1.toNat ∧ y.2.2 = nl y.1.toNat) ∧ ∀ (y : Int × List Int × List (List Int)), y.2.1.length = (32 : Nat) → y.2.2.length = (17 : Nat) → (∀ (a : List Int), a ∈ y.2.2 → a.length = (32 : Nat)) → (17 : Nat) = (17 : Nat) → (∀ (a : List Int), a ∈ List.replicate (17 : Nat) (List.replicate (32 : Nat) (0 : Int)) → a.length = (32 : Nat)) → (0 : Int) ≤ y.1 → y.1 ≤ d → y.2.1 = emp y.1.toNat → y.2.2 = nl y.1.toNat → r = r ∧ ∀ (b : Nat), (0 : Int) ≤ y.1 ∧ y.1 < (17 : Int) ∧ y.1.toNat < (17 : Nat) ∧ (decide (y.1 = d) = true → ∃ (y_1 : Unit), y.2.2.set y.1.toNat y.2.1 = nl (d.toNat + (1 : Nat)) ∧ (17 : Nat) = (17 : Nat) ∧ (nl (d.toNat + (1 : Nat))).length = (17 : Nat) ∧ ∀ (a : List Int), a ∈ nl (d.toNat + (1 : Nat)) → a.length = (32 : Nat)) ∧ (decide (y.1 = d) = false → ∀ (y_1 : Unit), (shaF ([(1 : Int)] ++ y.2.1 ++ y.2.1)).length = (32 : Nat) → (shaF ([(1 : Int)] ++ y.2.1 ++ y.2.1)).length = (32 : Nat) → (-9223372036854775808 : Int) ≤ y.1 + (1 : Int) ∧ y.1 + (1 : Int) ≤ (9223372036854775807 : Int) ∧ ∃ (y_2 : Int × List Int × List (List Int)), y.1 + (1 : Int) = y_2.1 ∧ shaF ([(1 : Int)] ++ y.2.1 ++ y.2.1) = y_2.2.1 ∧ (32 : Nat) = (32 : Nat) ∧ r = r ∧ y.2.2.set y.1.toNat y.2.1 = y_2.2.2 ∧ (17 : Nat) = (17 : Nat) ∧ List.replicate (17 : Nat) (List.replicate (32 : Nat) (0 : Int)) = List.replicate (17 : Nat) (List.replicate (32 : Nat) (0 : Int)) ∧ (17 : Nat) = (17 : Nat) ∧ d = d ∧ (0 : Int) ≤ y_2.1 ∧ y_2.1 ≤ d ∧ y_2.2.1 = emp y_2.1.toNat ∧ y_2.2.2 = nl y_2.1.toNat ∧ (d - y_2.1).toNat < (d - y.1).toNat)) (by kernel_rfl) ?_⟩
  simp only [imin, imax, decide_eq_true_eq, decide_eq_false_iff_not, Prod.forall, Prod.exists, exists_eq_left', exists_eq_left, exists_and_left, exists_and_right, exists_eq_right, exists_eq, exists_eq', true_and, and_true, forall_const, exists_const, eq_self, Bool.not_eq_true, Bool.not_eq_eq_eq_not, Bool.not_true, Bool.not_false, Value.slice.injEq, Option.getD_some]
  intro h0 h1
  refine ⟨⟨by omega, by omega, rfl, rfl⟩, fun i h l hh hl hla _ h2 h3 h4 h5 => ⟨h2, by omega, by omega, fun h6 => ?_, fun h6 h7 _ => ⟨by omega, by omega, by omega, by omega, ?_, ?_, by omega⟩⟩⟩
  · subst h6
    exact ⟨by rw [nl, h5, h4], nl_length _, nl_all _⟩
  · rw [show (i + 1).toNat = i.toNat + 1 by omega, emp, h4]
  · rw [show (i + 1).toNat = i.toNat + 1 by omega, nl, h5, h4]
noncomputable def con_none_ : Con Xp.P FMp := ⟨114, sg_none_, pr_none_, ps_none_, vc_ok (La := la_none_) (Ca := ca_none_) 300 (fn := Go.Proofs.Try.f114) (by kernel_rfl) (c := cd_none_) (by kernel_rfl) (by kernel_rfl) (by kernel_rfl) (by kernel_rfl) (fun ⟨d, ⟨⟩⟩ => vc_none_ d)⟩

end Go.Pw
