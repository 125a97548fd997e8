/-
  Walks by computing, their engine and the plain laws under them, in parts. No condition.
-/
import Derived.Test.YtogpbbgcdeiplaaSk5
import Derived.SizedLaws
section
/-
  Walks by computing. No condition.
-/
set_option linter.all false
set_option maxRecDepth 100000
set_option maxHeartbeats 1000000
namespace Go.Pw
open Go Go.Px Go.RowKit
attribute [local irreducible] shaF

noncomputable def cd_same : Code := (Go.Proofs.Try.f42.body).getD .skip
def sg_same : List Arg := [.one (.sli .u8), .one (.sli .u8)]
def pr_same : SgT FMp sg_same → List Prop
  | ((A, (a, c)), ((B, (b, e)), ())) => (fun (A : Option Addr) (a : List Int) (c : Nat) (B : Option Addr) (b : List Int) (e : Nat) => ([rg a, rg b] : List Prop)) A a c B b e
def ps_same : SgT FMp sg_same → PS FMp
  | ((A, (a, c)), ((B, (b, e)), ())) => (fun (A : Option Addr) (a : List Int) (c : Nat) (B : Option Addr) (b : List Int) (e : Nat) => (⟨Unit, fun y => [], fun y => one (.bool (decide (a = b))), fun y => [], fun y => []⟩ : PS FMp)) A a c B b e
def la_same : SgT FMp sg_same → List (Nat × (SS FMp → HA FMp))
  | ((A, (a, c)), ((B, (b, e)), ())) => (fun (A : Option Addr) (a : List Int) (c : Nat) (B : Option Addr) (b : List Int) (e : Nat) => ([] : List (Nat × (SS FMp → HA FMp)))) A a c B b e
def ca_same : SgT FMp sg_same → List (Nat × (SS FMp → HA FMp))
  | ((A, (a, c)), ((B, (b, e)), ())) => (fun (A : Option Addr) (a : List Int) (c : Nat) (B : Option Addr) (b : List Int) (e : Nat) => ([] : List (Nat × (SS FMp → HA FMp)))) A a c B b e
theorem vc_same (A : Option Addr) (a : List Int) (c : Nat) (B : Option Addr) (b : List Int) (e : Nat) : Vc (vc (FM := FMp) Xp 10 [] (la_same ((A, (a, c)), ((B, (b, e)), ()))) (ca_same ((A, (a, c)), ((B, (b, e)), ()))) [] [] [.tmp 4] sg_same pr_same ps_same cd_same 300 ((A, (a, c)), ((B, (b, e)), ()))) := by
  refine ⟨Eq.mpr (β := (A.isNone = true → a = []) → (B.isNone = true → b = []) → rg a → rg b → a.length = a.length ∧ b.length = b.length ∧ (∀ (x : Int), x ∈ a → (0 : Int) ≤ x ∧ x < (256 : Int)) ∧ (∀ (x : Int), x ∈ b → (0 : Int) ≤ x ∧ x < (256 : Int)) ∧ ∃ (y : Unit), decide (a = b) = decide (a = b)) (by kernel_rfl) ?_⟩
  simp only [imin, imax, decide_eq_true_eq, decide_eq_false_iff_not, Prod.forall, Prod.exists, exists_eq_left', exists_eq_left, exists_and_left, exists_and_right, exists_eq_right, exists_eq, exists_eq', true_and, and_true, forall_const, exists_const, eq_self, Bool.not_eq_true, Bool.not_eq_eq_eq_not, Bool.not_true, Bool.not_false, Value.slice.injEq, Option.getD_some, imp_self, implies_true, Option.some.injEq, Addr.mk.injEq, true_or, or_true, List.length_cons, List.length_nil, Nat.zero_add, Nat.reduceAdd]
  intro _ _ ha hb
  exact ⟨mem_of_get (p := fun x => 0 ≤ x ∧ x < 256) ha, mem_of_get (p := fun x => 0 ≤ x ∧ x < 256) hb⟩
noncomputable def con_same : Con Xp.P FMp := ⟨42, sg_same, pr_same, ps_same, vc_ok (La := la_same) (Ca := ca_same) 300 (fn := Go.Proofs.Try.f42) (by kernel_rfl) (c := cd_same) (by kernel_rfl) (by kernel_rfl) (by kernel_rfl) (by kernel_rfl) (fun ⟨⟨A, ⟨a, c⟩⟩, ⟨⟨B, ⟨b, e⟩⟩, ⟨⟩⟩⟩ => vc_same A a c B b e)⟩
noncomputable def cd_rcsame : Code := (Go.Proofs.Try.f24.body).getD .skip
def sg_rcsame : List Arg := [.one (.slr 5), .one (.slr 5)]
def pr_rcsame : SgT FMp sg_rcsame → List Prop
  | ((A, (a, c)), ((B, (b, e)), ())) => (fun (A : Option Addr) (a : List ((Option Addr × List Int × Nat) × List Int)) (c : Nat) (B : Option Addr) (b : List ((Option Addr × List Int × Nat) × List Int)) (e : Nat) => ([a.length ≤ 140737488355328, ∀ x ∈ a, rg x.1.2.1, ∀ x ∈ b, rg x.1.2.1] : List Prop)) A a c B b e
def ps_rcsame : SgT FMp sg_rcsame → PS FMp
  | ((A, (a, c)), ((B, (b, e)), ())) => (fun (A : Option Addr) (a : List ((Option Addr × List Int × Nat) × List Int)) (c : Nat) (B : Option Addr) (b : List ((Option Addr × List Int × Nat) × List Int)) (e : Nat) => (⟨Unit, fun y => [], fun y => one (.bool (decide (ctH a = ctH b))), fun y => [], fun y => []⟩ : PS FMp)) A a c B b e
def la_rcsame : SgT FMp sg_rcsame → List (Nat × (SS FMp → HA FMp))
  | ((A, (a, c)), ((B, (b, e)), ())) => (fun (A : Option Addr) (a : List ((Option Addr × List Int × Nat) × List Int)) (c : Nat) (B : Option Addr) (b : List ((Option Addr × List Int × Nat) × List Int)) (e : Nat) => ([(4, fun S => ⟨Int, fun y => [], fun n y => [(5, some (one (.int .i64 (y))))], fun n y => S.m, fun y => [0 ≤ y, y ≤ a.length, a.length = b.length, (ctH a).take y.toNat = (ctH b).take y.toNat], fun y => (a.length - y).toNat⟩)] : List (Nat × (SS FMp → HA FMp)))) A a c B b e
def ca_rcsame : SgT FMp sg_rcsame → List (Nat × (SS FMp → HA FMp))
  | ((A, (a, c)), ((B, (b, e)), ())) => (fun (A : Option Addr) (a : List ((Option Addr × List Int × Nat) × List Int)) (c : Nat) (B : Option Addr) (b : List ((Option Addr × List Int × Nat) × List Int)) (e : Nat) => ([] : List (Nat × (SS FMp → HA FMp)))) A a c B b e
theorem vc_rcsame (A : Option Addr) (a : List ((Option Addr × List Int × Nat) × List Int)) (c : Nat) (B : Option Addr) (b : List ((Option Addr × List Int × Nat) × List Int)) (e : Nat) : Vc (vc (FM := FMp) Xp 42 [con_same] (la_rcsame ((A, (a, c)), ((B, (b, e)), ()))) (ca_rcsame ((A, (a, c)), ((B, (b, e)), ()))) [] [] [.tmp 4] sg_rcsame pr_rcsame ps_rcsame cd_rcsame 300 ((A, (a, c)), ((B, (b, e)), ()))) := by
  refine ⟨Eq.mpr (β := (∀ (a_1 : (Option Addr × List Int × Nat) × List Int), a_1 ∈ a → a_1.2.length = (32 : Nat)) → (∀ (a : (Option Addr × List Int × Nat) × List Int), a ∈ b → a.2.length = (32 : Nat)) → a.length ≤ (140737488355328 : Nat) → (∀ (x : (Option Addr × List Int × Nat) × List Int), x ∈ a → rg x.fst.2.1) → (∀ (x : (Option Addr × List Int × Nat) × List Int), x ∈ b → rg x.fst.2.1) → ((!decide ((↑a.length : Int) = (↑b.length : Int))) = true → ∃ (y : Unit), false = decide (ctH a = ctH b)) ∧ ((!decide ((↑a.length : Int) = (↑b.length : Int))) = false → (∃ (y : Int), (0 : Int) = y ∧ (0 : Int) ≤ y ∧ y ≤ (↑a.length : Int) ∧ a.length = b.length ∧ List.take y.toNat (ctH a) = List.take y.toNat (ctH b)) ∧ ∀ (y : Int), (0 : Int) ≤ y → y ≤ (↑a.length : Int) → a.length = b.length → List.take y.toNat (ctH a) = List.take y.toNat (ctH b) → (decide (y < (↑a.length : Int)) = true → (0 : Int) ≤ y ∧ y < (↑a.length : Int) ∧ y.toNat < a.length ∧ y.toNat < a.length ∧ (0 : Int) ≤ y ∧ y < (↑b.length : Int) ∧ y.toNat < b.length ∧ y.toNat < b.length ∧ ((!decide ((a.getD y.toNat (((none, [], 0), List.replicate 32 0) : (Option Addr × List Int × Nat) × List Int)).2 = (b.getD y.toNat (((none, [], 0), List.replicate 32 0) : (Option Addr × List Int × Nat) × List Int)).2)) = true → ∃ (y : Unit), false = decide (ctH a = ctH b)) ∧ ((!decide ((a.getD y.toNat (((none, [], 0), List.replicate 32 0) : (Option Addr × List Int × Nat) × List Int)).2 = (b.getD y.toNat (((none, [], 0), List.replicate 32 0) : (Option Addr × List Int × Nat) × List Int)).2)) = false → (0 : Int) ≤ y ∧ y < (↑a.length : Int) ∧ y.toNat < a.length ∧ y.toNat < a.length ∧ (0 : Int) ≤ y ∧ y < (↑b.length : Int) ∧ y.toNat < b.length ∧ y.toNat < b.length ∧ (a.getD y.toNat (((none, [], 0), List.replicate 32 0) : (Option Addr × List Int × Nat) × List Int)).fst.2.1.length = (a.getD y.toNat (((none, [], 0), List.replicate 32 0) : (Option Addr × List Int × Nat) × List Int)).fst.2.1.length ∧ (b.getD y.toNat (((none, [], 0), List.replicate 32 0) : (Option Addr × List Int × Nat) × List Int)).fst.2.1.length = (b.getD y.toNat (((none, [], 0), List.replicate 32 0) : (Option Addr × List Int × Nat) × List Int)).fst.2.1.length ∧ rg (a.getD y.toNat (((none, [], 0), List.replicate 32 0) : (Option Addr × List Int × Nat) × List Int)).fst.2.1 ∧ rg (b.getD y.toNat (((none, [], 0), List.replicate 32 0) : (Option Addr × List Int × Nat) × List Int)).fst.2.1 ∧ ∀ (y_1 : Unit), ((!decide ((a.getD y.toNat (((none, [], 0), List.replicate 32 0) : (Option Addr × List Int × Nat) × List Int)).fst.2.1 = (b.getD y.toNat (((none, [], 0), List.replicate 32 0) : (Option Addr × List Int × Nat) × List Int)).fst.2.1)) = true → ∃ (y : Unit), false = decide (ctH a = ctH b)) ∧ ((!decide ((a.getD y.toNat (((none, [], 0), List.replicate 32 0) : (Option Addr × List Int × Nat) × List Int)).fst.2.1 = (b.getD y.toNat (((none, [], 0), List.replicate 32 0) : (Option Addr × List Int × Nat) × List Int)).fst.2.1)) = false → (-9223372036854775808 : Int) ≤ y + (1 : Int) ∧ y + (1 : Int) ≤ (9223372036854775807 : Int) ∧ ∃ (y_2 : Int), y + (1 : Int) = y_2 ∧ (0 : Int) ≤ y_2 ∧ y_2 ≤ (↑a.length : Int) ∧ a.length = b.length ∧ List.take y_2.toNat (ctH a) = List.take y_2.toNat (ctH b) ∧ ((↑a.length : Int) - y_2).toNat < ((↑a.length : Int) - y).toNat))) ∧ (decide (y < (↑a.length : Int)) = false → ∃ (y : Unit), true = decide (ctH a = ctH b)))) (by kernel_rfl) ?_⟩
  simp only [imin, imax, decide_eq_true_eq, decide_eq_false_iff_not, Prod.forall, Prod.exists, exists_eq_left', exists_eq_left, exists_and_left, exists_and_right, exists_eq_right, exists_eq, exists_eq', true_and, and_true, forall_const, exists_const, eq_self, Bool.not_eq_true, Bool.not_eq_eq_eq_not, Bool.not_true, Bool.not_false, Value.slice.injEq, Option.getD_some, imp_self, implies_true, Option.some.injEq, Addr.mk.injEq, true_or, or_true, List.length_cons, List.length_nil, Nat.zero_add, Nat.reduceAdd]
  intro ha hb hn ga gb
  have la := ctH_length a
  have lb := ctH_length b
  refine ⟨fun h => ?_, fun h => ⟨⟨by omega, by omega, by omega, by simp⟩, fun k h0 h1 h2 h3 => ⟨fun h4 => ?_, fun h4 => ?_⟩⟩⟩
  · symm
    simp only [decide_eq_false_iff_not]
    intro e
    have := congrArg List.length e
    omega
  · have na : k.toNat < a.length := by omega
    have nb : k.toNat < b.length := by omega
    have ea := ctH_get a na
    have eb := ctH_get b nb
    have ma : a.getD k.toNat ((none, [], 0), List.replicate 32 0) ∈ a := by rw [getD_lt na]; exact List.getElem_mem _
    have mb : b.getD k.toNat ((none, [], 0), List.replicate 32 0) ∈ b := by rw [getD_lt nb]; exact List.getElem_mem _
    generalize a.getD k.toNat ((none, [], 0), List.replicate 32 0) = p at ea ma ⊢
    generalize b.getD k.toNat ((none, [], 0), List.replicate 32 0) = r at eb mb ⊢
    have ne : (p.1.2.1, p.2) ≠ (r.1.2.1, r.2) → false = decide (ctH a = ctH b) := by
      intro hne
      symm
      simp only [decide_eq_false_iff_not]
      intro e
      rw [e, eb] at ea
      exact hne (by simpa using ea.symm)
    refine ⟨h0, h4, na, na, h0, by omega, nb, nb, fun h5 => ne (fun e => h5 (Prod.mk.inj e).2), fun h5 => ⟨h0, h4, na, na, h0, by omega, nb, nb, ga p.1.1 p.1.2.1 p.1.2.2 p.2 ma, gb r.1.1 r.1.2.1 r.1.2.2 r.2 mb, fun h6 => ne (fun e => h6 (Prod.mk.inj e).1), fun h6 => ⟨by omega, by omega, by omega, by omega, h2, ?_, by omega⟩⟩⟩
    rw [show (k + 1).toNat = k.toNat + 1 by omega, List.take_add_one, List.take_add_one, h3, ea, eb, h5, h6]
  · symm
    simp only [decide_eq_true_eq]
    rw [List.take_of_length_le (by omega), List.take_of_length_le (by omega)] at h3
    exact h3
noncomputable def con_rcsame : Con Xp.P FMp := ⟨24, sg_rcsame, pr_rcsame, ps_rcsame, vc_ok (La := la_rcsame) (Ca := ca_rcsame) 300 (fn := Go.Proofs.Try.f24) (by kernel_rfl) (c := cd_rcsame) (by kernel_rfl) (by kernel_rfl) (by kernel_rfl) (by kernel_rfl) (fun ⟨⟨A, ⟨a, c⟩⟩, ⟨⟨B, ⟨b, e⟩⟩, ⟨⟩⟩⟩ => vc_rcsame A a c B b e)⟩

end Go.Pw
end
section
/-
  Walks by computing. No condition.
-/
set_option linter.all false
set_option maxRecDepth 100000
set_option maxHeartbeats 1000000
namespace Go.Pw
open Go Go.Px Go.RowKit
attribute [local irreducible] shaF


theorem rg_ap {x y : List Int} (hx : rg x) (hy : rg y) : rg (x ++ y) := get_of_mem (p := fun x => 0 ≤ x ∧ x < 256) (by omega) fun z hz => by
  rcases List.mem_append.1 hz with h | h
  · exact mem_of_get (p := fun x => 0 ≤ x ∧ x < 256) hx z h
  · exact mem_of_get (p := fun x => 0 ≤ x ∧ x < 256) hy z h
theorem rg_one {n : Int} (h0 : 0 ≤ n) (h1 : n < 256) : rg [n] := fun j => by
  cases j with
  | zero => exact ⟨h0, h1⟩
  | succ j => simp
theorem prS_rg {p : List (List Int)} (hp : ∀ a ∈ p, rg a) : ∀ t, ∀ x ∈ prS p t, rg x.1
  | 0, x, h => by simp [prS] at h
  | t + 1, x, h => by
    rw [prS] at h
    rcases List.mem_append.1 h with h | h
    · exact prS_rg hp t x h
    · obtain ⟨k, -, rfl⟩ := List.mem_map.1 h
      exact rg_ap (rg_ap (rg_one (by decide) (by decide)) (rg_getD (rg_lvl hp t) _ _ (rg_z 32))) (rg_getD (rg_lvl hp t) _ _ (rg_z 32))
theorem kn6_rg {acc : List (Int × Int × List Int)} {ou : List (Int × Int)} (hs : st6 acc ou) (hac : acc.length = 32) (hg : ∀ a ∈ acc, rg a.2.2) : ∀ x ∈ kn6 acc ou, rg x.1 := fun x hx => by
  have n1 : (accL acc).length ≤ 32 := by rw [accL_length]; omega
  have n2 : (outL ou).length ≤ 32 := by rw [outL_length]; exact hs.2
  rw [kn6] at hx
  rcases List.mem_append.1 hx with hx | hx
  · rcases List.mem_append.1 hx with hx | hx
    · rcases List.mem_append.1 hx with hx | hx
      · obtain ⟨b, hb, rfl⟩ := List.mem_map.1 hx
        refine rg_ap (rg_one (by decide) (by decide)) ?_
        rcases List.mem_append.1 hb with hb | hb
        · obtain ⟨a, ha, rfl⟩ := List.mem_map.1 hb
          exact a48_rg (hg a ha)
        · obtain ⟨a, -, rfl⟩ := List.mem_map.1 hb
          exact rg_mem (e16_range _ _)
      · exact prS_rg (rg_pd (accLg acc)) 5 x hx
    · exact prS_rg (rg_pd (outLg ou)) 5 x hx
  · simp only [tpE, List.mem_cons, List.not_mem_nil, or_false] at hx
    rcases hx with rfl | rfl
    · exact rg_ap (rg_ap (rg_one (by decide) (by decide)) (rg_root _ (accLg acc) n1)) (rg_root _ (outLg ou) n2)
    · exact rg_ap (rg_ap (rg_one (by decide) (by decide)) (rg_sha _)) (rg_cnt _)
theorem knRes_unique {acc : List (Int × Int × List Int)} {ou : List (Int × Int)} {c d : List (List Int × List Int)} {e g : Int} (h : knRes acc ou c e) (k : knRes acc ou d g) : c = d ∧ e = g := by
  rcases h with ⟨o, rfl, rfl⟩ | ⟨o, rfl, rfl⟩ <;> rcases k with ⟨o', rfl, rfl⟩ | ⟨o', rfl, rfl⟩
  · exact ⟨rfl, rfl⟩
  · exact (o' o).elim
  · exact (o o').elim
  · exact ⟨rfl, rfl⟩
theorem knRes_len {acc : List (Int × Int × List Int)} {ou : List (Int × Int)} {l : List ((Option Addr × List Int × Nat) × List Int)} {e : Int} (hac : acc.length = 32) (h : knRes acc ou (ctH l) e) : l.length ≤ 128 := by
  rw [← ctH_length]
  rcases h with ⟨o, -, h⟩ | ⟨-, -, h⟩
  · rw [h, kn6_length hac o.2]; have := o.2; omega
  · rw [h]; simp
theorem knRes_rg {acc : List (Int × Int × List Int)} {ou : List (Int × Int)} {l : List ((Option Addr × List Int × Nat) × List Int)} {e : Int} (hac : acc.length = 32) (hg : ∀ a ∈ acc, rg a.2.2) (h : knRes acc ou (ctH l) e) : ∀ (A : Option Addr) (b : List Int) (n : Nat) (s : List Int), ((A, b, n), s) ∈ l → rg b := fun A b n s hm => by
  have hx : (b, s) ∈ ctH l := List.mem_map.2 ⟨_, hm, rfl⟩
  rcases h with ⟨o, -, h⟩ | ⟨-, -, h⟩
  · rw [h] at hx; exact kn6_rg o hac hg _ hx
  · rw [h] at hx; simp at hx
noncomputable def cd_lawKnown : Code := (Go.Proofs.Try.f5.body).getD .skip
def sg_lawKnown : List Arg := [.ag [.rcs 1 32, .slr 2]]
def pr_lawKnown : SgT FMp sg_lawKnown → List Prop
  | ((acc, ((A, (ou, c)), ())), ()) => (fun (acc : List (Int × Int × List Int)) (A : Option Addr) (ou : List (Int × Int)) (c : Nat) => ([a64 acc, ∀ a ∈ acc, rg a.2.2] : List Prop)) acc A ou c
def ps_lawKnown : SgT FMp sg_lawKnown → PS FMp
  | ((acc, ((A, (ou, c)), ())), ()) => (fun (acc : List (Int × Int × List Int)) (A : Option Addr) (ou : List (Int × Int)) (c : Nat) => (⟨Unit, fun y => [], fun y => one (.bool (true)), fun y => [], fun y => []⟩ : PS FMp)) acc A ou c
def la_lawKnown : SgT FMp sg_lawKnown → List (Nat × (SS FMp → HA FMp))
  | ((acc, ((A, (ou, c)), ())), ()) => (fun (acc : List (Int × Int × List Int)) (A : Option Addr) (ou : List (Int × Int)) (c : Nat) => ([] : List (Nat × (SS FMp → HA FMp)))) acc A ou c
def ca_lawKnown : SgT FMp sg_lawKnown → List (Nat × (SS FMp → HA FMp))
  | ((acc, ((A, (ou, c)), ())), ()) => (fun (acc : List (Int × Int × List Int)) (A : Option Addr) (ou : List (Int × Int)) (c : Nat) => ([] : List (Nat × (SS FMp → HA FMp)))) acc A ou c
theorem vc_lawKnown (acc : List (Int × Int × List Int)) (A : Option Addr) (ou : List (Int × Int)) (c : Nat) : Vc (vc (FM := FMp) Xp 28 [con_sknown, con_rknown, con_rcsame, con_anch06] (la_lawKnown ((acc, ((A, (ou, c)), ())), ())) (ca_lawKnown ((acc, ((A, (ou, c)), ())), ())) [] [] [.tmp 2] sg_lawKnown pr_lawKnown ps_lawKnown cd_lawKnown 3000 ((acc, ((A, (ou, c)), ())), ())) := by
  refine ⟨Eq.mpr (β := acc.length = (32 : Nat) → (∀ (a : Int × Int × List Int), List.Mem a acc → a.2.2.length = (32 : Nat)) → (∀ (a : Int × Int), a ∈ ou → True) → a64 acc → (∀ (a : Int × Int × List Int), a ∈ acc → rg a.2.2) → ∀ (b : Nat), ou.length = ou.length ∧ a64 acc ∧ ∀ (y : Option Addr × Nat × List ((Option Addr × List Int × Nat) × List Int) × Int), y.snd.2.1.length = y.snd.2.1.length → (∀ (a : (Option Addr × List Int × Nat) × List Int), a ∈ y.snd.2.1 → a.2.length = (32 : Nat)) → knRes acc ou (ctH y.snd.2.1) y.snd.2.2 → ou.length = ou.length ∧ a64 acc ∧ (∀ (a : Int × Int × List Int), a ∈ acc → rg a.2.2) ∧ ∀ (y_1 : Option Addr × Nat × List ((Option Addr × List Int × Nat) × List Int) × Int), y_1.snd.2.1.length = y_1.snd.2.1.length → (∀ (a : (Option Addr × List Int × Nat) × List Int), a ∈ y_1.snd.2.1 → a.2.length = (32 : Nat)) → knRes acc ou (ctH y_1.snd.2.1) y_1.snd.2.2 → y.snd.2.1.length = y.snd.2.1.length ∧ (∀ (a : (Option Addr × List Int × Nat) × List Int), a ∈ y.snd.2.1 → a ∈ y.snd.2.1 ∨ a ∈ y_1.snd.2.1) ∧ y_1.snd.2.1.length = y_1.snd.2.1.length ∧ (∀ (a : (Option Addr × List Int × Nat) × List Int), a ∈ y_1.snd.2.1 → a ∈ y.snd.2.1 ∨ a ∈ y_1.snd.2.1) ∧ y.snd.2.1.length ≤ (140737488355328 : Nat) ∧ (∀ (x : (Option Addr × List Int × Nat) × List Int), x ∈ y.snd.2.1 → rg x.fst.2.1) ∧ (∀ (x : (Option Addr × List Int × Nat) × List Int), x ∈ y_1.snd.2.1 → rg x.fst.2.1) ∧ ∀ (y_2 : Unit), ((decide (ctH y.snd.2.1 = ctH y_1.snd.2.1) && decide (y.snd.2.2 = y_1.snd.2.2)) = true → ∀ (y : Unit), ∃ (y : Unit), true = true) ∧ ((decide (ctH y.snd.2.1 = ctH y_1.snd.2.1) && decide (y.snd.2.2 = y_1.snd.2.2)) = false → ∃ (y : Unit), false = true)) (by kernel_rfl) ?_⟩
  simp only [imin, imax, decide_eq_true_eq, decide_eq_false_iff_not, Prod.forall, Prod.exists, exists_eq_left', exists_eq_left, exists_and_left, exists_and_right, exists_eq_right, exists_eq, exists_eq', true_and, and_true, forall_const, exists_const, eq_self, Bool.not_eq_true, Bool.not_eq_eq_eq_not, Bool.not_true, Bool.not_false, Value.slice.injEq, Option.getD_some, imp_self, implies_true, Option.some.injEq, Addr.mk.injEq, true_or, or_true, List.length_cons, List.length_nil, Nat.zero_add, Nat.reduceAdd]
  intro hac hlk ha hg
  refine ⟨ha, fun _ _ l e _ hk => ⟨ha, hg, fun _ _ k g _ hk2 => ?_⟩⟩
  obtain ⟨e1, e2⟩ := knRes_unique hk hk2
  have hlen := knRes_len hac hk
  have hr1 := knRes_rg hac (fun a ha => hg _ _ _ ha) hk
  have hr2 := knRes_rg hac (fun a ha => hg _ _ _ ha) hk2
  refine ⟨fun _ _ _ _ h => .inl h, fun _ _ _ _ h => .inr h, by omega, hr1, hr2, fun h => ?_⟩
  rw [e1, e2] at h
  simp at h
noncomputable def con_lawKnown : Con Xp.P FMp := ⟨5, sg_lawKnown, pr_lawKnown, ps_lawKnown, vc_ok (La := la_lawKnown) (Ca := ca_lawKnown) 3000 (fn := Go.Proofs.Try.f5) (by kernel_rfl) (c := cd_lawKnown) (by kernel_rfl) (by kernel_rfl) (by kernel_rfl) (by kernel_rfl) (fun ⟨⟨acc, ⟨⟨A, ⟨ou, c⟩⟩, ⟨⟩⟩⟩, ⟨⟩⟩ => vc_lawKnown acc A ou c)⟩
theorem XpP : Xp.P = Go.Proofs.Try.prog := by kernel_rfl
theorem law_lawKnown (W : World) (acc : List (Int × Int × List Int)) (A : Option Addr) (ou : List (Int × Int)) (c : Nat) (h1 : acc.length = 32) (h2 : ∀ a ∈ acc, a.2.2.length = 32) (ha : a64 acc) (hg : ∀ a ∈ acc, rg a.2.2) (hR : Rd W A (fden fmOut ou ++ [])) : Calls Go.Proofs.Try.prog 5 #[.agg (fden fmAccount acc ++ ([Value.slice A ou.length c] ++ [])).toArray] W (fun e w' => e = .returned (.bool true) ∧ Hp no W w' []) := by
  have hy : All (sgHy (FM := FMp) sg_lawKnown ((acc, ((A, (ou, c)), ())), ())) := ⟨h1, h2, fun _ _ => trivial, trivial⟩
  have hrk : ROk (FM := FMp) (sgBd (FM := FMp) sg_lawKnown ((acc, ((A, (ou, c)), ())), ()) 0).1 W (sgBd (FM := FMp) sg_lawKnown ((acc, ((A, (ou, c)), ())), ()) 0).2 := ⟨⟨hR, ⟨fun a _ => fmRd.flat rfl W a, trivial⟩⟩, trivial⟩
  have hpr : All (pr_lawKnown ((acc, ((A, (ou, c)), ())), ())) := ⟨ha, hg, trivial⟩
  have h0 : Calls Xp.P 5 #[.agg (fden fmAccount acc ++ ([Value.slice A ou.length c] ++ [])).toArray] W ((ps_lawKnown ((acc, ((A, (ou, c)), ())), ())).R no W) := con_lawKnown.ok W ((acc, ((A, (ou, c)), ())), ()) hy hrk hpr
  have h1 : Calls Xp.P 5 #[.agg (fden fmAccount acc ++ ([Value.slice A ou.length c] ++ [])).toArray] W (fun e w' => e = .returned (.bool true) ∧ Hp no W w' []) := h0.mono fun e w' h => by
    obtain ⟨_, h1, _, _, h2, _⟩ := h
    exact ⟨h1, h2⟩
  rw [XpP] at h1
  exact h1

end Go.Pw
end
section
/-
  How arguments read whose slices hold slices: by their types, with their sizes. No condition.
-/
set_option linter.all false
namespace Go.Px
open Go.RowKit Go.ChangeShapes Go.WideShapes

def ftys (P : Program) (t : TypeId) : Option (List TypeId) := match P.underlying t with
  | some (.struct fs) => some (fs.toList.map (·.type))
  | _ => none
def OkTs (R : TypeId → List Value → Prop) : List TypeId → List Value → Prop
  | [], cs => cs = []
  | t :: ts, cs => ∃ c r, cs = c ++ r ∧ R t c ∧ OkTs R ts r
/-- What cells of a type read as: flat ones, slices, structures of these. -/
def OkT (P : Program) (W : World) : Nat → TypeId → List Value → Prop
  | 0, _, _ => False
  | n + 1, t, cs => match flatK P 20 t with
    | some ks => OkC ks cs
    | none => match P.underlying t with
      | some (.slice e) => ∃ (A : Option Addr) (css : List (List Value)) (cap : Nat), cs = [.slice A css.length cap] ∧ (∀ c ∈ css, c.length = P.cellsOf e ∧ OkT P W n e c) ∧ Rd W A css.flatten ∧ css.length ≤ cap ∧ (A = none → css = [] ∧ cap = 0) ∧ cap * P.bytesOf e ≤ reachBytes
      | _ => match ftys P t with
        | some ts => OkTs (OkT P W n) ts cs
        | none => False
def offOk (P : Program) : List Field → Nat → Option Nat
  | [], o => some o
  | f :: fs, o => bif Nat.beq f.offset o then offOk P fs (o + P.cellsOf f.type) else none
/-- Types that are read so. -/
def depT (P : Program) : Nat → TypeId → Bool
  | 0, _ => false
  | n + 1, t => match flatK P 20 t with
    | some _ => true
    | none => match P.underlying t with
      | some (.slice e) => depT P n e && Nat.blt 0 (P.cellsOf e)
      | some (.struct fs) => fs.toList.all (fun f => depT P n f.type) && (match offOk P fs.toList 0 with
        | some o => Nat.beq o (P.cellsOf t)
        | none => false)
      | _ => false

section
variable {H : Type} {enc : TypeId × Value → H} {P : Program} {w : World} {base : Nat} {held : Bool}

theorem wts_mem {e : TypeId} : ∀ {l : List (DataW H)} {d : DataW H}, d ∈ l → ∀ m ∈ d.weights P e, m ∈ DataW.weightsAll P e l
  | [], _, h, _, _ => by cases h
  | x :: l, d, h, m, hm => by
    simp only [DataW.weightsAll, List.mem_append]
    rcases List.mem_cons.1 h with rfl | h
    · exact .inl hm
    · exact .inr (wts_mem h m hm)

/-- A slice, its elements each with what it is told to be. -/
theorem trod_sliceW {t e : TypeId} (ht : P.underlying t = some (.slice e)) (hpos : 0 < P.cellsOf e) {fuel : Nat} {A : Option Addr} {len cap : Nat} {x : DataW H × List MemPlace}
    (hd : DataW.trod enc P w base (fun _ => true) held (fuel + 1) t [.slice A len cap] = some x) :
    ∃ css : List (List Value), css.length = len ∧ len ≤ cap ∧ Rd w A css.flatten ∧ (A = none → css = [] ∧ cap = 0) ∧ (A ≠ none → cap * P.bytesOf e ∈ x.1.weights P t) ∧
      ∀ cs ∈ css, cs.length = P.cellsOf e ∧ ∃ y, DataW.trod enc P w base (fun _ => true) held fuel e cs = some y ∧ ∀ m ∈ y.1.weights P e, m ∈ x.1.weights P t := by
  obtain ⟨css, h1, h2, h3, h4, h5⟩ := trod_slice ht hpos hd
  have hd0 := hd
  unfold DataW.trod at hd
  rw [ht] at hd
  cases A with
  | none =>
    have h0 : len = 0 ∧ cap = 0 := by cases len <;> cases cap <;> simp_all
    obtain ⟨rfl, rfl⟩ := h0
    have := List.length_eq_zero_iff.1 h1
    subst this
    exact ⟨[], rfl, Nat.le_refl _, h5, fun _ => ⟨rfl, rfl⟩, fun h => (h rfl).elim, by simp⟩
  | some a =>
    simp only at hd
    split at hd
    · rename_i hc
      obtain ⟨elems, he, hd⟩ := Option.bind_eq_some_iff.1 hd
      simp only [if_true] at hd
      obtain ⟨rest, hr, hx⟩ := Option.map_eq_some_iff.1 hd
      have e1 := (mapM_get he).1
      have e2 := (mapM_get hr).1
      simp only [List.length_range] at e1 e2
      have hxw : x.1.weights P t = ((elems.map (·.1)).length + (rest.map (·.1)).length) * P.bytesOf e :: (DataW.weightsAll P e (elems.map (·.1)) ++ DataW.weightsAll P e (rest.map (·.1))) := by
        rw [← hx]; simp only [DataW.weights, ht]
      -- the cells of each element
      have hcs : ∀ i, i < len → ∃ cs y, w.cells? base (a.add (i * P.cellsOf e)) (P.cellsOf e) = some cs ∧ DataW.trod enc P w base (fun _ => true) held fuel e cs = some y ∧ y ∈ elems := by
        intro i hi
        obtain ⟨y, hy, hyr⟩ := (mapM_get he).2 i (by simpa using hi)
        obtain ⟨cs, g1, g2⟩ := Option.bind_eq_some_iff.1 hy
        exact ⟨cs, y, by simpa using g1, g2, List.mem_of_getElem? hyr⟩
      have hrow : ∀ i (hi : i < css.length), ∃ cs y, css[i] = cs ∧ DataW.trod enc P w base (fun _ => true) held fuel e cs = some y ∧ y ∈ elems := by
        intro i hi
        obtain ⟨cs, y, g1, g2, g3⟩ := hcs i (by omega)
        obtain ⟨c1, c2⟩ := cell_of_cells? g1
        refine ⟨cs, y, ?_, g2, g3⟩
        -- both read the same cells
        have hfl : ∀ (css : List (List Value)) (n : Nat), (∀ cs ∈ css, cs.length = n) → ∀ i j, i < css.length → j < n → css.flatten[i * n + j]? = (css[i]?.getD [])[j]? := by
          intro css n
          induction css with
          | nil => simp
          | cons c css ih =>
            intro h i j hi hj
            have hcl := h c (by simp)
            cases i with
            | zero => rw [List.flatten_cons, Nat.zero_mul, Nat.zero_add, List.getElem?_append_left (by omega)]; simp
            | succ i =>
              rw [List.flatten_cons, List.getElem?_append_right (by rw [Nat.succ_mul]; omega), show (i + 1) * n + j - c.length = i * n + j by rw [Nat.succ_mul]; omega, ih (fun x hx => h x (by simp [hx])) i j (by simpa using hi) hj]
              simp
        have hlen : ∀ cs ∈ css, cs.length = P.cellsOf e := fun cs hcs' => (h4 cs hcs').1
        have hl2 : css.flatten.length = css.length * P.cellsOf e := by
          have : ∀ (css : List (List Value)) (n : Nat), (∀ cs ∈ css, cs.length = n) → css.flatten.length = css.length * n := by
            intro css n
            induction css with
            | nil => simp
            | cons c css ih => intro h; simp only [List.flatten_cons, List.length_append, h c (by simp), ih (fun x hx => h x (by simp [hx])), List.length_cons, Nat.succ_mul]; omega
          exact this css _ hlen
        refine List.ext_getElem? fun j => ?_
        by_cases hj : j < P.cellsOf e
        · have f2 := hfl css _ hlen i j hi hj
          rw [List.getElem?_eq_getElem hi] at f2
          simp only [Option.getD_some] at f2
          rw [← f2]
          have hk : i * P.cellsOf e + j < css.flatten.length := by
            rw [hl2]
            have := Nat.mul_le_mul_right (P.cellsOf e) (show i + 1 ≤ css.length by omega)
            rw [Nat.succ_mul] at this; omega
          rcases h5 with h5 | ⟨b, off, blk, T, fr, hA, hb, hcc⟩
          · rw [h5] at hk; simp at hk
          · simp only [Option.some.injEq] at hA
            subst hA
            rw [← hcc _ hk, ← c2 j hj]
            simp only [Addr.add]
            by_cases hz : i * P.cellsOf e = 0 <;> by_cases hz2 : j = 0 <;> simp [hz, hz2, World.cell?, hb, Nat.add_assoc]
        · rw [List.getElem?_eq_none (by rw [hlen _ (List.getElem_mem hi)]; omega), List.getElem?_eq_none (by omega)]
      refine ⟨css, h1, h2, h5, fun h => (by cases h), fun _ => ?_, fun cs hcs' => ?_⟩
      · rw [hxw]
        have : (elems.map (·.1)).length + (rest.map (·.1)).length = cap := by simp [e1, e2]; omega
        rw [this]; simp
      · obtain ⟨i, hi, rfl⟩ := List.mem_iff_getElem.1 hcs'
        obtain ⟨cs, y, g1, g2, g3⟩ := hrow i hi
        refine ⟨(h4 _ hcs').1, y, by rw [g1]; exact g2, fun m hm => ?_⟩
        rw [hxw]
        exact List.mem_cons_of_mem _ (List.mem_append_left _ (wts_mem (List.mem_map.2 ⟨y, g3, rfl⟩) m hm))
    · simp at hd


theorem okT_of : ∀ (n : Nat) {t : TypeId} {fuel : Nat} {cs : List Value} {x : DataW H × List MemPlace}, depT P n t = true → DataW.trod enc P w base (fun _ => true) held fuel t cs = some x → (∀ m ∈ x.1.weights P t, m ≤ reachBytes) → OkT P w n t cs
  | 0, _, _, _, _, h, _, _ => by simp [depT] at h
  | n + 1, t, fuel, cs, x, h, hd, hw => by
    unfold depT at h
    unfold OkT
    cases hf : flatK P 20 t with
    | some ks => simp only; exact flat_trod 20 fuel hf hd
    | none =>
      rw [hf] at h
      simp only at h ⊢
      cases fuel with
      | zero => simp [DataW.trod] at hd
      | succ fuel =>
        split at h
        · rename_i e hu
          simp only [Bool.and_eq_true] at h
          have hpos := Nat.blt_eq.mp h.2
          have hform : ∃ A len cap, cs = [.slice A len cap] := by
            unfold DataW.trod at hd
            rw [hu] at hd
            split at hd <;> simp_all
          obtain ⟨A, len, cap, rfl⟩ := hform
          obtain ⟨css, h1, h2, h3, h4, h5, h6⟩ := trod_sliceW hu hpos hd
          subst h1
          rw [hu]
          show ∃ (A' : Option Addr) (css' : List (List Value)) (cap' : Nat), [Value.slice A css.length cap] = [.slice A' css'.length cap'] ∧ (∀ c ∈ css', c.length = P.cellsOf e ∧ OkT P w n e c) ∧ Rd w A' css'.flatten ∧ css'.length ≤ cap' ∧ (A' = none → css' = [] ∧ cap' = 0) ∧ cap' * P.bytesOf e ≤ reachBytes
          refine ⟨A, css, cap, rfl, fun c hc => ?_, h3, h2, h4, ?_⟩
          · obtain ⟨g1, y, g2, g3⟩ := h6 c hc
            exact ⟨g1, okT_of n h.1 g2 fun m hm => hw m (g3 m hm)⟩
          · by_cases hA : A = none
            · rw [(h4 hA).2]; simp
            · exact hw _ (h5 hA)
        · rename_i fs hu
          simp only [Bool.and_eq_true] at h
          have hft : ftys P t = some (fs.toList.map (·.type)) := by unfold ftys; rw [hu]
          unfold DataW.trod at hd
          rw [hu] at hd
          simp only at hd
          split at hd
          · rename_i hl
            obtain ⟨r, hr, rfl⟩ := Option.map_eq_some_iff.1 hd
            have hw2 : ∀ m ∈ DataW.weightsEach P (fs.toList.map (·.type)) (r.map (·.1)), m ≤ reachBytes := by
              intro m hm
              refine hw m ?_
              simp only [DataW.weights, hu]; exact hm
            have key : ∀ (gs : List Field) (o z : Nat) (r : List (DataW H × List MemPlace)), offOk P gs o = some z → (∀ g ∈ gs, depT P n g.type = true) → z ≤ cs.length →
                gs.mapM (fun f => DataW.trod enc P w base (fun _ => true) held fuel f.type ((cs.drop f.offset).take (P.cellsOf f.type))) = some r → (∀ m ∈ DataW.weightsEach P (gs.map (·.type)) (r.map (·.1)), m ≤ reachBytes) →
                o ≤ z ∧ OkTs (OkT P w n) (gs.map (·.type)) ((cs.drop o).take (z - o)) := by
              intro gs
              induction gs with
              | nil =>
                intro o z r h1 _ hz _ _
                simp only [offOk, Option.some.injEq] at h1; subst h1
                exact ⟨Nat.le_refl _, by simp [OkTs]⟩
              | cons g gs ih =>
                intro o z r h1 hg hz h2 h3
                simp only [offOk, cond_eq_ite] at h1
                split at h1
                · rename_i ho
                  have ho := Nat.eq_of_beq_eq_true ho
                  obtain ⟨x, y, hx, hy, rfl⟩ := mapM_some_cons h2
                  simp only [List.map_cons, DataW.weightsEach, List.mem_append] at h3
                  obtain ⟨i1, i2⟩ := ih _ _ _ h1 (fun g' hg' => hg g' (by simp [hg'])) hz hy (fun m hm => h3 m (.inr hm))
                  refine ⟨by omega, _, _, ?_, okT_of n (hg g (by simp)) hx (fun m hm => h3 m (.inl hm)), i2⟩
                  rw [ho, ← List.drop_drop, show z - o = P.cellsOf g.type + (z - (o + P.cellsOf g.type)) by omega, List.take_add]
                · cases h1
            have h2 := h.2
            split at h2
            · rename_i o ho
              have h2 := Nat.eq_of_beq_eq_true h2
              obtain ⟨-, k2⟩ := key fs.toList 0 o r ho (fun g hg => List.all_eq_true.1 h.1 g hg) (by omega) hr hw2
              rw [List.drop_zero, Nat.sub_zero, List.take_of_length_le (by omega)] at k2
              have : (match P.underlying t with
                | some (.slice e) => ∃ (A : Option Addr) (css : List (List Value)) (cap : Nat), cs = [.slice A css.length cap] ∧ (∀ c ∈ css, c.length = P.cellsOf e ∧ OkT P w n e c) ∧ Rd w A css.flatten ∧ css.length ≤ cap ∧ (A = none → css = [] ∧ cap = 0) ∧ cap * P.bytesOf e ≤ reachBytes
                | _ => match ftys P t with
                  | some ts => OkTs (OkT P w n) ts cs
                  | none => False) := by
                rw [hu, hft]; exact k2
              exact this
            · cases h2
          · simp at hd
        · cases h
theorem okT_flat {n : Nat} {t : TypeId} {cs : List Value} {ks : List CK} (h : OkT P w (n + 1) t cs) (hf : flatK P 20 t = some ks) : OkC ks cs := by
  unfold OkT at h; rw [hf] at h; exact h
theorem okT_slice {n : Nat} {t e : TypeId} {cs : List Value} (h : OkT P w (n + 1) t cs) (hf : (flatK P 20 t).isNone = true) (hu : P.underlying t = some (.slice e)) :
    ∃ (A : Option Addr) (css : List (List Value)) (cap : Nat), cs = [.slice A css.length cap] ∧ (∀ c ∈ css, c.length = P.cellsOf e ∧ OkT P w n e c) ∧ Rd w A css.flatten ∧ css.length ≤ cap ∧ (A = none → css = [] ∧ cap = 0) ∧ cap * P.bytesOf e ≤ reachBytes := by
  unfold OkT at h; rw [Option.isNone_iff_eq_none.1 hf, hu] at h; exact h
def isSt (P : Program) (t : TypeId) (ts : List TypeId) : Bool := (flatK P 20 t).isNone && ftys P t == some ts
theorem okT_struct {n : Nat} {t : TypeId} {cs : List Value} {ts : List TypeId} (h : OkT P w (n + 1) t cs) (hf : isSt P t ts = true) : OkTs (OkT P w n) ts cs := by
  simp only [isSt, Bool.and_eq_true, beq_iff_eq] at hf
  unfold OkT at h
  rw [Option.isNone_iff_eq_none.1 hf.1] at h
  have h2 := hf.2
  unfold ftys at h2
  split at h2
  · rename_i fs hu
    simp only [Option.some.injEq] at h2
    simp only at h
    rw [hu] at h
    simp only [ftys, hu, h2] at h
    exact h
  · cases h2
/-- An argument. -/
theorem okT_arg {ts : List TypeId} {ds : List (DataW H)} {t : TypeId} {v : Value} {d : DataW H} {ps : List MemPlace} (n j : Nat) (hsz : (DataW.weightsEach P ts ds).all (· ≤ reachBytes) = true) (h1 : ts[j]? = some t) (h2 : ds[j]? = some d)
    (hd : DataW.Trod enc P w base (fun _ => true) held t v d ps) (hn : depT P n t = true) : OkT P w n t v.cells.toList := by
  obtain ⟨fuel, hf⟩ := hd
  exact okT_of n hn hf fun m hm => by
    have := List.all_eq_true.1 hsz m (DataW.weights_mem_each h1 h2 m hm)
    simpa using this
end
/-- A structure that is handed in. -/
theorem open_dst {P : Program} {w : World} {n : Nat} {r : Reach} {b0 : Nat} {t : TypeId} {v : Value} (ht : isStr P t = true) (hval : Value.okWide P w r b0 t v) (h : OkT P w n t v.cells.toList) :
    ∃ cs : List Value, v = .agg cs.toArray ∧ OkT P w n t cs := by
  obtain ⟨fs, ht⟩ := isStr_some ht
  obtain ⟨cs, rfl, hs⟩ := okWide_struct ht hval
  exact ⟨cs.toList, rfl, by simpa [Value.cells] using h⟩
/-- Rows of cells as values of one form. -/
theorem rows_of {α : Type} {R : List Value → Prop} {form : α → List Value} {ok : α → Prop} (h : ∀ cs, R cs → ∃ a, cs = form a ∧ ok a) : ∀ {css : List (List Value)}, (∀ cs ∈ css, R cs) → ∃ l : List α, css.flatten = l.flatMap form ∧ l.length = css.length ∧ ∀ a ∈ l, ok a
  | [], _ => ⟨[], rfl, rfl, by simp⟩
  | cs :: css, hc => by
    obtain ⟨a, rfl, ha⟩ := h cs (hc cs (by simp))
    obtain ⟨l, h1, h2, h3⟩ := rows_of h (css := css) (fun x hx => hc x (by simp [hx]))
    exact ⟨a :: l, by simp [h1], by simp [h2], by simpa [ha] using h3⟩
end Go.Px
end
