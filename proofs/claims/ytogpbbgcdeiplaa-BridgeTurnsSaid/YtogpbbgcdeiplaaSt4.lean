/-
  Walks by computing. No condition.
-/
import Derived.Test.YtogpbbgcdeiplaaSt1
import Derived.Test.YtogpbbgcdeiplaaMe4
import Derived.Test.YtogpbbgcdeiplaaMs1
set_option linter.all false
set_option maxRecDepth 100000
set_option maxHeartbeats 1000000
namespace Go.Pw
open Go Go.Px Go.RowKit
attribute [local irreducible] shaF

def sumA (l : List (Int × Int × List Int)) : Nat → Int
  | 0 => 0
  | n + 1 => sumA l n + (l.getD n (0, 0, List.replicate 32 0)).1
def stOk (l : List (Int × Int × List Int)) : Prop := sumA l 32 ≤ 4611686018427387904
instance (l : List (Int × Int × List Int)) : Decidable (stOk l) := by unfold stOk; infer_instance
def stV (l : List (Int × Int × List Int)) : Int := if stOk l then sumA l 32 else 0
def stE (l : List (Int × Int × List Int)) : Int := if stOk l then 0 else 4
def a64 (l : List (Int × Int × List Int)) : Prop := ∀ j, (0 ≤ (l.getD j (0, 0, List.replicate 32 0)).1 ∧ (l.getD j (0, 0, List.replicate 32 0)).1 < 18446744073709551616)


theorem sumA_mono {p : List (Int × Int × List Int)} (h : a64 p) {m n : Nat} (hl : m ≤ n) : sumA p m ≤ sumA p n := by
  induction n with
  | zero => rw [show m = 0 by omega]; exact Int.le_refl _
  | succ n ih =>
    by_cases e : m = n + 1
    · subst e; exact Int.le_refl _
    · have := ih (by omega)
      have := (h n).1
      show _ ≤ sumA p n + (p.getD n _).1
      omega
theorem sumA_nn {p : List (Int × Int × List Int)} (h : a64 p) (n : Nat) : 0 ≤ sumA p n := sumA_mono h (Nat.zero_le n)
theorem rg_mem {l : List Int} (h : ∀ y ∈ l, 0 ≤ y ∧ y < 256) : rg l := get_of_mem (p := fun x => 0 ≤ x ∧ x < 256) (by omega) h
theorem rg_cnt (n : Int) : rg (cntF n) := rg_mem (frF_range _)
theorem fldOk5 {i : Int} : fldOk i 5 ↔ 0 ≤ i ∧ i < 32 := by
  unfold fldOk
  exact ⟨fun h => ⟨h.2.1, by have := h.2.2; omega⟩, fun h => ⟨by omega, h.1, by have := h.2; omega⟩⟩
theorem fldE5 {i : Int} : fldE i 5 = 0 ↔ 0 ≤ i ∧ i < 32 := by
  rw [← fldOk5, fldE]
  by_cases o : fldOk i 5
  · rw [if_pos o]; simp [o]
  · rw [if_neg o]; simp [o]
theorem ck_yes {root : List Int} {i to am : Int} {ps : List (List Int)} {oth : List Int} {cnt : Int} (h5 : ps.length = 5) (hc : cnt ≤ 32) (hw : IntKind.u64.wrap i < cnt) (hf : fldE i ps.length = 0) : decide (topF oth (fldH i (leafF (e16 to am)) ps) cnt = root) = ckO root i to am ps oth cnt := by
  rw [h5] at hf
  unfold ckO sfoB
  rw [sfoH, if_pos ⟨h5, hc⟩, decide_eq_true h5, decide_eq_true hc, decide_eq_true hf, decide_eq_true hw]
  simp
theorem ck_no {root : List Int} {i to am : Int} {ps : List (List Int)} {oth : List Int} {cnt : Int} (h : ¬ (ps.length = 5 ∧ cnt ≤ 32 ∧ fldE i ps.length = 0 ∧ IntKind.u64.wrap i < cnt)) : false = ckO root i to am ps oth cnt := by
  symm
  unfold ckO sfoB
  by_cases h5 : ps.length = 5
  · rw [h5] at h
    by_cases hc : cnt ≤ 32
    · by_cases hf : fldE i 5 = 0
      · have hw : ¬ IntKind.u64.wrap i < cnt := fun hw => h ⟨rfl, hc, hf, hw⟩
        rw [decide_eq_false hw]; simp
      · rw [decide_eq_false hf]; simp
    · rw [decide_eq_false hc]; simp
  · rw [decide_eq_false h5]; simp
noncomputable def cd_reight : Code := (Go.Proofs.Try.f72.body).getD .skip
def sg_reight : List Arg := [.one (.int .u64)]
def pr_reight : SgT FMp sg_reight → List Prop
  | (x, ()) => (fun (x : Int) => ([] : List Prop)) x
def ps_reight : SgT FMp sg_reight → PS FMp
  | (x, ()) => (fun (x : Int) => (⟨(Option Addr) × Nat, fun y => [.ad y.1], fun y => .v (.one (.sc 0 0 ((ei8 x).length) y.2 false)), fun y => [.sl 0 ((ei8 x).length) y.2 (zz .u8 ((ei8 x)) ((ei8 x).length)) 5 1], fun y => [((ei8 x)).length ≤ y.2]⟩ : PS FMp)) x
def la_reight : SgT FMp sg_reight → List (Nat × (SS FMp → HA FMp))
  | (x, ()) => (fun (x : Int) => ([(3, fun S => ⟨Int × Nat × (List Int) × (Option Addr) × Nat, fun y => [.ad y.2.2.2.1], fun n y => [(3, some (.v (.one (.sc n 0 y.2.2.1.length y.2.2.2.2 false)))), (4, some (one (.int .i64 (y.1))))], fun n y => .sl n y.2.2.1.length y.2.2.2.2 (zz .u8 y.2.2.1 y.2.2.1.length) 5 1 :: S.m, fun y => [y.1 = 7 - (y.2.1 : Int), y.2.1 ≤ 8, y.2.2.1.length ≤ y.2.2.2.2, y.2.2.1 = itN (e8S x) y.2.1 []], fun y => 8 - y.2.1⟩)] : List (Nat × (SS FMp → HA FMp)))) x
def ca_reight : SgT FMp sg_reight → List (Nat × (SS FMp → HA FMp))
  | (x, ()) => (fun (x : Int) => ([] : List (Nat × (SS FMp → HA FMp)))) x
theorem vc_reight (x : Int) : Vc (vc (FM := FMp) Xp 19 [] (la_reight (x, ())) (ca_reight (x, ())) [] [] [.tmp 2] sg_reight pr_reight ps_reight cd_reight 300 (x, ())) := by
  refine ⟨Eq.mpr (β := (∃ (y : Int × Nat × List Int × Option Addr × Nat), Value.slice none (0 : Nat) (0 : Nat) = Value.slice y.snd.snd.2.1 y.snd.2.1.length y.snd.snd.2.2 ∧ (7 : Int) = y.1 ∧ y.snd.snd.2.1 = none ∧ y.snd.2.1.length = (0 : Nat) ∧ y.snd.snd.2.2 = (0 : Nat) ∧ y.snd.2.1 = [] ∧ y.snd.2.1.length = (0 : Nat) ∧ y.1 = (7 : Int) - (↑y.2.1 : Int) ∧ y.2.1 ≤ (8 : Nat) ∧ y.snd.2.1.length ≤ y.snd.snd.2.2 ∧ y.snd.2.1 = itN (e8S x) y.2.1 []) ∧ ∀ (y : Int × Nat × List Int × Option Addr × Nat), y.snd.2.1.length = y.snd.2.1.length → y.1 = (7 : Int) - (↑y.2.1 : Int) → y.2.1 ≤ (8 : Nat) → y.snd.2.1.length ≤ y.snd.snd.2.2 → y.snd.2.1 = itN (e8S x) y.2.1 [] → (decide ((0 : Int) ≤ y.1) = true → (-9223372036854775808 : Int) ≤ (8 : Int) * y.1 ∧ (8 : Int) * y.1 ≤ (9223372036854775807 : Int) ∧ (0 : Int) ≤ IntKind.u64.wrap ((8 : Int) * y.1) ∧ ∀ (b : Nat), y.snd.2.1.length = y.snd.2.1.length ∧ y.snd.snd.2.2 = y.snd.snd.2.2 ∧ (1 : Nat) = [IntKind.u8.wrap (shrV IntKind.u64 x (IntKind.u64.wrap ((8 : Int) * y.1)))].length ∧ (y.snd.2.1.length + (1 : Nat)) * Proofs.Try.prog.types[(5 : Nat)].bytes ≤ (140737488355328 : Nat) ∧ ∀ (A : Option Addr) (q : Nat), y.snd.2.1.length + (1 : Nat) ≤ q → (-9223372036854775808 : Int) ≤ y.1 - (1 : Int) ∧ y.1 - (1 : Int) ≤ (9223372036854775807 : Int) ∧ ∃ (y_1 : Int × Nat × List Int × Option Addr × Nat), A = y_1.snd.snd.2.1 ∧ y.snd.2.1.length + (1 : Nat) = y_1.snd.2.1.length ∧ q = y_1.snd.snd.2.2 ∧ y.1 - (1 : Int) = y_1.1 ∧ A = y_1.snd.snd.2.1 ∧ y.snd.2.1.length + (1 : Nat) = y_1.snd.2.1.length ∧ q = y_1.snd.snd.2.2 ∧ y.snd.2.1 ++ [IntKind.u8.wrap (shrV IntKind.u64 x (IntKind.u64.wrap ((8 : Int) * y.1)))] = y_1.snd.2.1 ∧ y.snd.2.1.length + [IntKind.u8.wrap (shrV IntKind.u64 x (IntKind.u64.wrap ((8 : Int) * y.1)))].length = y_1.snd.2.1.length ∧ y_1.1 = (7 : Int) - (↑y_1.2.1 : Int) ∧ y_1.2.1 ≤ (8 : Nat) ∧ y_1.snd.2.1.length ≤ y_1.snd.snd.2.2 ∧ y_1.snd.2.1 = itN (e8S x) y_1.2.1 [] ∧ (8 : Nat) - y_1.2.1 < (8 : Nat) - y.2.1) ∧ (decide ((0 : Int) ≤ y.1) = false → ∃ (y_1 : Option Addr × Nat), y.snd.snd.2.1 = y_1.1 ∧ y.snd.2.1.length = (ei8 x).length ∧ y.snd.snd.2.2 = y_1.2 ∧ y.snd.snd.2.1 = y_1.1 ∧ y.snd.2.1.length = (ei8 x).length ∧ y.snd.snd.2.2 = y_1.2 ∧ y.snd.2.1 = ei8 x ∧ y.snd.2.1.length = (ei8 x).length ∧ (ei8 x).length ≤ y_1.2)) (by kernel_rfl) ?_⟩
  simp only [imin, imax, decide_eq_true_eq, decide_eq_false_iff_not, Prod.forall, Prod.exists, exists_eq_left', exists_eq_left, exists_and_left, exists_and_right, exists_eq_right, exists_eq, exists_eq', true_and, and_true, forall_const, exists_const, eq_self, Bool.not_eq_true, Bool.not_eq_eq_eq_not, Bool.not_true, Bool.not_false, Value.slice.injEq, Option.getD_some, imp_self, implies_true, Option.some.injEq, Addr.mk.injEq, true_or, or_true, List.length_cons, List.length_nil, Nat.zero_add, Nat.reduceAdd]
  refine ⟨⟨7, 0, [], none, 0, ⟨rfl, rfl, rfl⟩, rfl, rfl, rfl, rfl, rfl, rfl, by omega, by omega, Nat.le_refl _, rfl⟩, fun i j u q hi hj hq hu => ⟨fun g => ?_, fun g => ?_⟩⟩
  · have hul : u.length = j := by rw [hu, itN_e8]
    have hw : IntKind.u64.wrap (8 * i) = 8 * i := by rw [wrap64, Int.emod_eq_of_lt (by omega) (by omega)]
    rw [hw]
    refine ⟨by omega, by omega, by omega, by rw [BY1]; omega, fun q' hq' => ⟨by omega, by omega, i - 1, j + 1, _, ?_, rfl, ?_, rfl, ?_, by omega, by omega, ?_, ?_, by omega⟩⟩
    · simp
    · simp
    · simp
    · simpa using hq'
    · rw [itN, e8S, ← hu, show 8 * (7 - (j : Int)) = 8 * i by omega]
  · have hj8 : j = 8 := by omega
    subst hj8
    have hu : u = ei8 x := hu
    subst hu
    exact ⟨rfl, rfl, rfl, rfl, hq⟩
noncomputable def con_reight : Con Xp.P FMp := ⟨72, sg_reight, pr_reight, ps_reight, vc_ok (La := la_reight) (Ca := ca_reight) 300 (fn := Go.Proofs.Try.f72) (by kernel_rfl) (c := cd_reight) (by kernel_rfl) (by kernel_rfl) (by kernel_rfl) (by kernel_rfl) (fun ⟨x, ⟨⟩⟩ => vc_reight x)⟩
noncomputable def cd_routb : Code := (Go.Proofs.Try.f45.body).getD .skip
def sg_routb : List Arg := [.ag [.int .u64, .int .u64]]
def pr_routb : SgT FMp sg_routb → List Prop
  | ((to, (am, ())), ()) => (fun (to am : Int) => ([] : List Prop)) to am
def ps_routb : SgT FMp sg_routb → PS FMp
  | ((to, (am, ())), ()) => (fun (to am : Int) => (⟨(Option Addr) × Nat, fun y => [.ad y.1], fun y => .v (.one (.sc 0 0 ((e16 to am).length) y.2 false)), fun y => [.sl 0 ((e16 to am).length) y.2 (zz .u8 ((e16 to am)) ((e16 to am).length)) 5 1], fun y => [((e16 to am)).length ≤ y.2]⟩ : PS FMp)) to am
def la_routb : SgT FMp sg_routb → List (Nat × (SS FMp → HA FMp))
  | ((to, (am, ())), ()) => (fun (to am : Int) => ([] : List (Nat × (SS FMp → HA FMp)))) to am
def ca_routb : SgT FMp sg_routb → List (Nat × (SS FMp → HA FMp))
  | ((to, (am, ())), ()) => (fun (to am : Int) => ([] : List (Nat × (SS FMp → HA FMp)))) to am
theorem vc_routb (to am : Int) : Vc (vc (FM := FMp) Xp 10 [con_reight] (la_routb ((to, (am, ())), ())) (ca_routb ((to, (am, ())), ())) [] [] [.tmp 2] sg_routb pr_routb ps_routb cd_routb 300 ((to, (am, ())), ())) := by
  refine ⟨Eq.mpr (β := ∀ (b : Nat) (y : Option Addr × Nat), (ei8 to).length = (ei8 to).length → (ei8 to).length ≤ y.2 → ∀ (y_1 : Option Addr × Nat), (ei8 am).length = (ei8 am).length → (ei8 am).length ≤ y_1.2 → (ei8 to).length = (ei8 to).length ∧ y.2 = y.2 ∧ (ei8 am).length = (ei8 am).length ∧ ((ei8 to).length + (ei8 am).length) * Proofs.Try.prog.types[(5 : Nat)].bytes ≤ (140737488355328 : Nat) ∧ ∀ (A : Option Addr) (q : Nat), (ei8 to).length + (ei8 am).length ≤ q → ∃ (y : Option Addr × Nat), A = y.1 ∧ (ei8 to).length + (ei8 am).length = (e16 to am).length ∧ q = y.2 ∧ A = y.1 ∧ (ei8 to).length + (ei8 am).length = (e16 to am).length ∧ q = y.2 ∧ ei8 to ++ ei8 am = e16 to am ∧ (ei8 to).length + (ei8 am).length = (e16 to am).length ∧ (e16 to am).length ≤ y.2) (by kernel_rfl) ?_⟩
  simp only [imin, imax, decide_eq_true_eq, decide_eq_false_iff_not, Prod.forall, Prod.exists, exists_eq_left', exists_eq_left, exists_and_left, exists_and_right, exists_eq_right, exists_eq, exists_eq', true_and, and_true, forall_const, exists_const, eq_self, Bool.not_eq_true, Bool.not_eq_eq_eq_not, Bool.not_true, Bool.not_false, Value.slice.injEq, Option.getD_some, imp_self, implies_true, Option.some.injEq, Addr.mk.injEq, true_or, or_true, List.length_cons, List.length_nil, Nat.zero_add, Nat.reduceAdd]
  intro b hb b2 hb2
  have h1 := ei8_length to
  have h2 := ei8_length am
  exact ⟨by rw [BY1]; omega, fun q hq => ⟨by simp [e16], by simp [e16], rfl, by simp [e16], by rw [e16_length]; omega⟩⟩
noncomputable def con_routb : Con Xp.P FMp := ⟨45, sg_routb, pr_routb, ps_routb, vc_ok (La := la_routb) (Ca := ca_routb) 300 (fn := Go.Proofs.Try.f45) (by kernel_rfl) (c := cd_routb) (by kernel_rfl) (by kernel_rfl) (by kernel_rfl) (by kernel_rfl) (fun ⟨⟨to, ⟨am, ⟨⟩⟩⟩, ⟨⟩⟩ => vc_routb to am)⟩
noncomputable def cd_rleaf : Code := (Go.Proofs.Try.f29.body).getD .skip
def sg_rleaf : List Arg := [.one (.sli .u8)]
def pr_rleaf : SgT FMp sg_rleaf → List Prop
  | ((A, (b, c)), ()) => (fun (A : Option Addr) (b : List Int) (c : Nat) => ([b.length ≤ 1000000, rg b] : List Prop)) A b c
def ps_rleaf : SgT FMp sg_rleaf → PS FMp
  | ((A, (b, c)), ()) => (fun (A : Option Addr) (b : List Int) (c : Nat) => (⟨Unit, fun y => [], fun y => .v (.ag (zz .u8 (leafF b) 32)), fun y => [], fun y => [(leafF b).length = 32]⟩ : PS FMp)) A b c
def la_rleaf : SgT FMp sg_rleaf → List (Nat × (SS FMp → HA FMp))
  | ((A, (b, c)), ()) => (fun (A : Option Addr) (b : List Int) (c : Nat) => ([] : List (Nat × (SS FMp → HA FMp)))) A b c
def ca_rleaf : SgT FMp sg_rleaf → List (Nat × (SS FMp → HA FMp))
  | ((A, (b, c)), ()) => (fun (A : Option Addr) (b : List Int) (c : Nat) => ([] : List (Nat × (SS FMp → HA FMp)))) A b c
theorem vc_rleaf (A : Option Addr) (b : List Int) (c : Nat) : Vc (vc (FM := FMp) Xp 7 [con_rsum] (la_rleaf ((A, (b, c)), ())) (ca_rleaf ((A, (b, c)), ())) [] [] [.cell 2 40] sg_rleaf pr_rleaf ps_rleaf cd_rleaf 300 ((A, (b, c)), ())) := by
  refine ⟨Eq.mpr (β := (A.isNone = true → b = []) → b.length ≤ (1000000 : Nat) → rg b → ∀ (b_1 b_2 : Nat), (1 : Nat) = (1 : Nat) ∧ (1 : Nat) = (1 : Nat) ∧ b.length = b.length ∧ ((1 : Nat) + b.length) * Proofs.Try.prog.types[(5 : Nat)].bytes ≤ (140737488355328 : Nat) ∧ ∀ (A : Option Addr) (q : Nat), (1 : Nat) + b.length ≤ q → (1 : Nat) + b.length = (1 : Nat) + b.length ∧ ([(0 : Int)] ++ b).length ≤ (140737488355000 : Nat) ∧ (∀ (j : Nat), (0 : Int) ≤ ([(0 : Int)] ++ b).getD j (0 : Int) ∧ ([(0 : Int)] ++ b).getD j (0 : Int) < (256 : Int)) ∧ ∀ (y : Unit), (shaF ([(0 : Int)] ++ b)).length = (32 : Nat) → (shaF ([(0 : Int)] ++ b)).length = (32 : Nat) → ∃ (y : Unit), shaF ([(0 : Int)] ++ b) = leafF b ∧ (32 : Nat) = (32 : Nat) ∧ (leafF b).length = (32 : Nat)) (by kernel_rfl) ?_⟩
  simp only [imin, imax, decide_eq_true_eq, decide_eq_false_iff_not, Prod.forall, Prod.exists, exists_eq_left', exists_eq_left, exists_and_left, exists_and_right, exists_eq_right, exists_eq, exists_eq', true_and, and_true, forall_const, exists_const, eq_self, Bool.not_eq_true, Bool.not_eq_eq_eq_not, Bool.not_true, Bool.not_false, Value.slice.injEq, Option.getD_some, imp_self, implies_true, Option.some.injEq, Addr.mk.injEq, true_or, or_true, List.length_cons, List.length_nil, Nat.zero_add, Nat.reduceAdd]
  intro _ hn hg
  refine ⟨by rw [BY1]; omega, fun q hq => ⟨by simp; omega, ?_, fun h _ => ⟨rfl, h⟩⟩⟩
  exact rg_mem fun y hy => by
    rcases List.mem_append.1 hy with h | h
    · simp only [List.mem_singleton] at h; omega
    · exact mem_of_get (p := fun x => 0 ≤ x ∧ x < 256) hg y h
noncomputable def con_rleaf : Con Xp.P FMp := ⟨29, sg_rleaf, pr_rleaf, ps_rleaf, vc_ok (La := la_rleaf) (Ca := ca_rleaf) 300 (fn := Go.Proofs.Try.f29) (by kernel_rfl) (c := cd_rleaf) (by kernel_rfl) (by kernel_rfl) (by kernel_rfl) (by kernel_rfl) (fun ⟨⟨A, ⟨b, c⟩⟩, ⟨⟩⟩ => vc_rleaf A b c)⟩
noncomputable def cd_rcounted : Code := (Go.Proofs.Try.f33.body).getD .skip
def sg_rcounted : List Arg := [.one (.int .u64)]
def pr_rcounted : SgT FMp sg_rcounted → List Prop
  | (n, ()) => (fun (n : Int) => ([] : List Prop)) n
def ps_rcounted : SgT FMp sg_rcounted → PS FMp
  | (n, ()) => (fun (n : Int) => (⟨Unit, fun y => [], fun y => .v (.ag (zz .u8 (cntF n) 32)), fun y => [], fun y => [(cntF n).length = 32]⟩ : PS FMp)) n
def la_rcounted : SgT FMp sg_rcounted → List (Nat × (SS FMp → HA FMp))
  | (n, ()) => (fun (n : Int) => ([] : List (Nat × (SS FMp → HA FMp)))) n
def ca_rcounted : SgT FMp sg_rcounted → List (Nat × (SS FMp → HA FMp))
  | (n, ()) => (fun (n : Int) => ([] : List (Nat × (SS FMp → HA FMp)))) n
theorem vc_rcounted (n : Int) : Vc (vc (FM := FMp) Xp 6 [con_rfrom] (la_rcounted (n, ())) (ca_rcounted (n, ())) [] [] [.cell 2 40] sg_rcounted pr_rcounted ps_rcounted cd_rcounted 300 (n, ())) := by
  refine ⟨Eq.mpr (β := ∀ (b : Nat) (y : Unit), (frF (32 : Nat) (32 : Nat) (((((List.replicate (4 : Nat) (0 : Int)).set (0 : Nat) (0 : Int)).set (1 : Nat) (0 : Int)).set (2 : Nat) (0 : Int)).set (3 : Nat) n)).length = (32 : Nat) → (frF (32 : Nat) (32 : Nat) (((((List.replicate (4 : Nat) (0 : Int)).set (0 : Nat) (0 : Int)).set (1 : Nat) (0 : Int)).set (2 : Nat) (0 : Int)).set (3 : Nat) n)).length = (32 : Nat) → ∃ (y : Unit), frF (32 : Nat) (32 : Nat) (((((List.replicate (4 : Nat) (0 : Int)).set (0 : Nat) (0 : Int)).set (1 : Nat) (0 : Int)).set (2 : Nat) (0 : Int)).set (3 : Nat) n) = cntF n ∧ (32 : Nat) = (32 : Nat) ∧ (cntF n).length = (32 : Nat)) (by kernel_rfl) ?_⟩
  simp only [imin, imax, decide_eq_true_eq, decide_eq_false_iff_not, Prod.forall, Prod.exists, exists_eq_left', exists_eq_left, exists_and_left, exists_and_right, exists_eq_right, exists_eq, exists_eq', true_and, and_true, forall_const, exists_const, eq_self, Bool.not_eq_true, Bool.not_eq_eq_eq_not, Bool.not_true, Bool.not_false, Value.slice.injEq, Option.getD_some, imp_self, implies_true, Option.some.injEq, Addr.mk.injEq, true_or, or_true, List.length_cons, List.length_nil, Nat.zero_add, Nat.reduceAdd]
  exact fun h _ => ⟨rfl, h⟩
noncomputable def con_rcounted : Con Xp.P FMp := ⟨33, sg_rcounted, pr_rcounted, ps_rcounted, vc_ok (La := la_rcounted) (Ca := ca_rcounted) 300 (fn := Go.Proofs.Try.f33) (by kernel_rfl) (c := cd_rcounted) (by kernel_rfl) (by kernel_rfl) (by kernel_rfl) (by kernel_rfl) (fun ⟨n, ⟨⟩⟩ => vc_rcounted n)⟩
noncomputable def cd_rjoined : Code := (Go.Proofs.Try.f34.body).getD .skip
def sg_rjoined : List Arg := [.ag [.arr .u8 32], .ag [.arr .u8 32], .one (.int .u64)]
def pr_rjoined : SgT FMp sg_rjoined → List Prop
  | ((u, ()), ((v, ()), (n, ()))) => (fun (u v : List Int) (n : Int) => ([rg u, rg v] : List Prop)) u v n
def ps_rjoined : SgT FMp sg_rjoined → PS FMp
  | ((u, ()), ((v, ()), (n, ()))) => (fun (u v : List Int) (n : Int) => (⟨Unit, fun y => [], fun y => .v (.ag (zz .u8 (topF u v n) 32)), fun y => [], fun y => [(topF u v n).length = 32]⟩ : PS FMp)) u v n
def la_rjoined : SgT FMp sg_rjoined → List (Nat × (SS FMp → HA FMp))
  | ((u, ()), ((v, ()), (n, ()))) => (fun (u v : List Int) (n : Int) => ([] : List (Nat × (SS FMp → HA FMp)))) u v n
def ca_rjoined : SgT FMp sg_rjoined → List (Nat × (SS FMp → HA FMp))
  | ((u, ()), ((v, ()), (n, ()))) => (fun (u v : List Int) (n : Int) => ([] : List (Nat × (SS FMp → HA FMp)))) u v n
theorem vc_rjoined (u v : List Int) (n : Int) : Vc (vc (FM := FMp) Xp 13 [con_rcounted, con_rpair] (la_rjoined ((u, ()), ((v, ()), (n, ())))) (ca_rjoined ((u, ()), ((v, ()), (n, ())))) [] [] [.cell 6 40] sg_rjoined pr_rjoined ps_rjoined cd_rjoined 300 ((u, ()), ((v, ()), (n, ())))) := by
  refine ⟨Eq.mpr (β := u.length = (32 : Nat) → v.length = (32 : Nat) → rg u → rg v → ∀ (b b b : Nat), (∀ (j : Nat), (0 : Int) ≤ u.getD j (0 : Int) ∧ u.getD j (0 : Int) < (256 : Int)) ∧ (∀ (j : Nat), (0 : Int) ≤ v.getD j (0 : Int) ∧ v.getD j (0 : Int) < (256 : Int)) ∧ ∀ (y : Unit), (shaF ([(1 : Int)] ++ u ++ v)).length = (32 : Nat) → (shaF ([(1 : Int)] ++ u ++ v)).length = (32 : Nat) → ∀ (y : Unit), (cntF n).length = (32 : Nat) → (cntF n).length = (32 : Nat) → (∀ (j : Nat), (0 : Int) ≤ (shaF ([(1 : Int)] ++ u ++ v)).getD j (0 : Int) ∧ (shaF ([(1 : Int)] ++ u ++ v)).getD j (0 : Int) < (256 : Int)) ∧ (∀ (j : Nat), (0 : Int) ≤ (cntF n).getD j (0 : Int) ∧ (cntF n).getD j (0 : Int) < (256 : Int)) ∧ ∀ (y : Unit), (shaF ([(1 : Int)] ++ shaF ([(1 : Int)] ++ u ++ v) ++ cntF n)).length = (32 : Nat) → (shaF ([(1 : Int)] ++ shaF ([(1 : Int)] ++ u ++ v) ++ cntF n)).length = (32 : Nat) → ∃ (y : Unit), shaF ([(1 : Int)] ++ shaF ([(1 : Int)] ++ u ++ v) ++ cntF n) = topF u v n ∧ (32 : Nat) = (32 : Nat) ∧ (topF u v n).length = (32 : Nat)) (by kernel_rfl) ?_⟩
  simp only [imin, imax, decide_eq_true_eq, decide_eq_false_iff_not, Prod.forall, Prod.exists, exists_eq_left', exists_eq_left, exists_and_left, exists_and_right, exists_eq_right, exists_eq, exists_eq', true_and, and_true, forall_const, exists_const, eq_self, Bool.not_eq_true, Bool.not_eq_eq_eq_not, Bool.not_true, Bool.not_false, Value.slice.injEq, Option.getD_some, imp_self, implies_true, Option.some.injEq, Addr.mk.injEq, true_or, or_true, List.length_cons, List.length_nil, Nat.zero_add, Nat.reduceAdd]
  exact fun _ _ gu gv => ⟨gu, gv, fun _ _ _ _ => ⟨rg_sha _, rg_cnt _, fun h _ => ⟨rfl, h⟩⟩⟩
noncomputable def con_rjoined : Con Xp.P FMp := ⟨34, sg_rjoined, pr_rjoined, ps_rjoined, vc_ok (La := la_rjoined) (Ca := ca_rjoined) 300 (fn := Go.Proofs.Try.f34) (by kernel_rfl) (c := cd_rjoined) (by kernel_rfl) (by kernel_rfl) (by kernel_rfl) (by kernel_rfl) (fun ⟨⟨u, ⟨⟩⟩, ⟨⟨v, ⟨⟩⟩, ⟨n, ⟨⟩⟩⟩⟩ => vc_rjoined u v n)⟩
noncomputable def cd_rcheckout : Code := (Go.Proofs.Try.f21.body).getD .skip
def sg_rcheckout : List Arg := [.ag [.arr .u8 32], .one (.int .i64), .ag [.int .u64, .int .u64], .ag [.slr 0, .arr .u8 32, .int .u64]]
def pr_rcheckout : SgT FMp sg_rcheckout → List Prop
  | ((root, ()), (i, ((to, (am, ())), (((P, (ps, pc)), (oth, (cnt, ()))), ())))) => (fun (root : List Int) (i to am : Int) (P : Option Addr) (ps : List (List Int)) (pc : Nat) (oth : List Int) (cnt : Int) => ([∀ a ∈ ps, rg a, rg oth] : List Prop)) root i to am P ps pc oth cnt
def ps_rcheckout : SgT FMp sg_rcheckout → PS FMp
  | ((root, ()), (i, ((to, (am, ())), (((P, (ps, pc)), (oth, (cnt, ()))), ())))) => (fun (root : List Int) (i to am : Int) (P : Option Addr) (ps : List (List Int)) (pc : Nat) (oth : List Int) (cnt : Int) => (⟨Unit, fun y => [], fun y => one (.bool (ckO root i to am ps oth cnt)), fun y => [], fun y => []⟩ : PS FMp)) root i to am P ps pc oth cnt
def la_rcheckout : SgT FMp sg_rcheckout → List (Nat × (SS FMp → HA FMp))
  | ((root, ()), (i, ((to, (am, ())), (((P, (ps, pc)), (oth, (cnt, ()))), ())))) => (fun (root : List Int) (i to am : Int) (P : Option Addr) (ps : List (List Int)) (pc : Nat) (oth : List Int) (cnt : Int) => ([] : List (Nat × (SS FMp → HA FMp)))) root i to am P ps pc oth cnt
def ca_rcheckout : SgT FMp sg_rcheckout → List (Nat × (SS FMp → HA FMp))
  | ((root, ()), (i, ((to, (am, ())), (((P, (ps, pc)), (oth, (cnt, ()))), ())))) => (fun (root : List Int) (i to am : Int) (P : Option Addr) (ps : List (List Int)) (pc : Nat) (oth : List Int) (cnt : Int) => ([] : List (Nat × (SS FMp → HA FMp)))) root i to am P ps pc oth cnt
theorem vc_rcheckout (root : List Int) (i to am : Int) (P : Option Addr) (ps : List (List Int)) (pc : Nat) (oth : List Int) (cnt : Int) : Vc (vc (FM := FMp) Xp 53 [con_routb, con_rleaf, con_rfold, con_rjoined] (la_rcheckout ((root, ()), (i, ((to, (am, ())), (((P, (ps, pc)), (oth, (cnt, ()))), ()))))) (ca_rcheckout ((root, ()), (i, ((to, (am, ())), (((P, (ps, pc)), (oth, (cnt, ()))), ()))))) [] [] [.tmp 8] sg_rcheckout pr_rcheckout ps_rcheckout cd_rcheckout 300 ((root, ()), (i, ((to, (am, ())), (((P, (ps, pc)), (oth, (cnt, ()))), ()))))) := by
  refine ⟨Eq.mpr (β := root.length = (32 : Nat) → (∀ (a : List Int), a ∈ ps → a.length = (32 : Nat)) → oth.length = (32 : Nat) → (∀ (a : List Int), a ∈ ps → rg a) → rg oth → ∀ (b b b : Nat), ((!decide ((↑ps.length : Int) = (5 : Int)) || decide ((32 : Int) < cnt) || decide (i < (0 : Int)) || decide (cnt ≤ IntKind.u64.wrap i)) = true → ∃ (y : Unit), false = ckO root i to am ps oth cnt) ∧ ((!decide ((↑ps.length : Int) = (5 : Int)) || decide ((32 : Int) < cnt) || decide (i < (0 : Int)) || decide (cnt ≤ IntKind.u64.wrap i)) = false → (∀ (y : Option Addr × Nat), (e16 to am).length = (e16 to am).length → (e16 to am).length ≤ y.2 → ((e16 to am).length = (e16 to am).length ∧ (e16 to am).length ≤ (1000000 : Nat) ∧ rg (e16 to am) ∧ ∀ (y : Unit), (leafF (e16 to am)).length = (32 : Nat) → (leafF (e16 to am)).length = (32 : Nat) → (ps.length = ps.length ∧ rg (leafF (e16 to am)) ∧ (∀ (a : List Int), a ∈ ps → rg a) ∧ ∀ (y : Unit), (fldH i (leafF (e16 to am)) ps).length = (32 : Nat) → (fldH i (leafF (e16 to am)) ps).length = (32 : Nat) → ∀ (b : Nat), (decide (fldE i ps.length = (0 : Int)) = true → rg oth ∧ rg (fldH i (leafF (e16 to am)) ps) ∧ ∀ (y : Unit), (topF oth (fldH i (leafF (e16 to am)) ps) cnt).length = (32 : Nat) → (topF oth (fldH i (leafF (e16 to am)) ps) cnt).length = (32 : Nat) → ∃ (y : Unit), decide (topF oth (fldH i (leafF (e16 to am)) ps) cnt = root) = ckO root i to am ps oth cnt) ∧ (decide (fldE i ps.length = (0 : Int)) = false → ∃ (y : Unit), false = ckO root i to am ps oth cnt)) ∧ ∀ (b : Nat), ps.length = ps.length ∧ rg (leafF (e16 to am)) ∧ (∀ (a : List Int), a ∈ ps → rg a) ∧ ∀ (y : Unit), (fldH i (leafF (e16 to am)) ps).length = (32 : Nat) → (fldH i (leafF (e16 to am)) ps).length = (32 : Nat) → (decide (fldE i ps.length = (0 : Int)) = true → rg oth ∧ rg (fldH i (leafF (e16 to am)) ps) ∧ ∀ (y : Unit), (topF oth (fldH i (leafF (e16 to am)) ps) cnt).length = (32 : Nat) → (topF oth (fldH i (leafF (e16 to am)) ps) cnt).length = (32 : Nat) → ∃ (y : Unit), decide (topF oth (fldH i (leafF (e16 to am)) ps) cnt = root) = ckO root i to am ps oth cnt) ∧ (decide (fldE i ps.length = (0 : Int)) = false → ∃ (y : Unit), false = ckO root i to am ps oth cnt)) ∧ ∀ (b : Nat), (e16 to am).length = (e16 to am).length ∧ (e16 to am).length ≤ (1000000 : Nat) ∧ rg (e16 to am) ∧ ∀ (y : Unit), (leafF (e16 to am)).length = (32 : Nat) → (leafF (e16 to am)).length = (32 : Nat) → ps.length = ps.length ∧ rg (leafF (e16 to am)) ∧ (∀ (a : List Int), a ∈ ps → rg a) ∧ ∀ (y : Unit), (fldH i (leafF (e16 to am)) ps).length = (32 : Nat) → (fldH i (leafF (e16 to am)) ps).length = (32 : Nat) → (decide (fldE i ps.length = (0 : Int)) = true → rg oth ∧ rg (fldH i (leafF (e16 to am)) ps) ∧ ∀ (y : Unit), (topF oth (fldH i (leafF (e16 to am)) ps) cnt).length = (32 : Nat) → (topF oth (fldH i (leafF (e16 to am)) ps) cnt).length = (32 : Nat) → ∃ (y : Unit), decide (topF oth (fldH i (leafF (e16 to am)) ps) cnt = root) = ckO root i to am ps oth cnt) ∧ (decide (fldE i ps.length = (0 : Int)) = false → ∃ (y : Unit), false = ckO root i to am ps oth cnt)) ∧ ∀ (b : Nat) (y : Option Addr × Nat), (e16 to am).length = (e16 to am).length → (e16 to am).length ≤ y.2 → (e16 to am).length = (e16 to am).length ∧ (e16 to am).length ≤ (1000000 : Nat) ∧ rg (e16 to am) ∧ ∀ (y : Unit), (leafF (e16 to am)).length = (32 : Nat) → (leafF (e16 to am)).length = (32 : Nat) → ps.length = ps.length ∧ rg (leafF (e16 to am)) ∧ (∀ (a : List Int), a ∈ ps → rg a) ∧ ∀ (y : Unit), (fldH i (leafF (e16 to am)) ps).length = (32 : Nat) → (fldH i (leafF (e16 to am)) ps).length = (32 : Nat) → (decide (fldE i ps.length = (0 : Int)) = true → rg oth ∧ rg (fldH i (leafF (e16 to am)) ps) ∧ ∀ (y : Unit), (topF oth (fldH i (leafF (e16 to am)) ps) cnt).length = (32 : Nat) → (topF oth (fldH i (leafF (e16 to am)) ps) cnt).length = (32 : Nat) → ∃ (y : Unit), decide (topF oth (fldH i (leafF (e16 to am)) ps) cnt = root) = ckO root i to am ps oth cnt) ∧ (decide (fldE i ps.length = (0 : Int)) = false → ∃ (y : Unit), false = ckO root i to am ps oth cnt))) (by kernel_rfl) ?_⟩
  simp only [imin, imax, decide_eq_true_eq, decide_eq_false_iff_not, Prod.forall, Prod.exists, exists_eq_left', exists_eq_left, exists_and_left, exists_and_right, exists_eq_right, exists_eq, exists_eq', true_and, and_true, forall_const, exists_const, eq_self, Bool.not_eq_true, Bool.not_eq_eq_eq_not, Bool.not_true, Bool.not_false, Value.slice.injEq, Option.getD_some, imp_self, implies_true, Option.some.injEq, Addr.mk.injEq, true_or, or_true, List.length_cons, List.length_nil, Nat.zero_add, Nat.reduceAdd]
  intro _ _ _ gp go
  refine ⟨fun h => ck_no fun o => ?_, fun h => ?_⟩
  · simp only [Bool.or_eq_true, Bool.not_eq_true', decide_eq_false_iff_not, decide_eq_true_eq] at h
    obtain ⟨o1, o2, o3, o4⟩ := o
    rw [o1] at o3
    have := fldE5.1 o3
    omega
  simp only [Bool.or_eq_false_iff, Bool.not_eq_false', decide_eq_true_eq, decide_eq_false_iff_not] at h
  obtain ⟨⟨⟨h1, h2⟩, h3⟩, h4⟩ := h
  have hl : (e16 to am).length ≤ 1000000 := by rw [e16_length]; omega
  have hg : rg (e16 to am) := rg_mem (e16_range to am)
  have hlf : rg (leafF (e16 to am)) := rg_sha _
  have hF : rg (fldH i (leafF (e16 to am)) ps) := rg_fldH hlf
  have Y : fldE i ps.length = 0 → rg oth ∧ rg (fldH i (leafF (e16 to am)) ps) ∧ ((topF oth (fldH i (leafF (e16 to am)) ps) cnt).length = 32 → (topF oth (fldH i (leafF (e16 to am)) ps) cnt).length = 32 → decide (topF oth (fldH i (leafF (e16 to am)) ps) cnt = root) = ckO root i to am ps oth cnt) := fun hf => ⟨go, hF, fun _ _ => ck_yes (by omega) (by omega) (by omega) hf⟩
  have Z : ¬ fldE i ps.length = 0 → false = ckO root i to am ps oth cnt := fun hf => ck_no fun o => hf o.2.2.1
  exact ⟨fun _ _ => ⟨⟨hl, hg, fun _ _ => ⟨⟨hlf, gp, fun _ _ => ⟨Y, Z⟩⟩, hlf, gp, fun _ _ => ⟨Y, Z⟩⟩⟩, hl, hg, fun _ _ => ⟨hlf, gp, fun _ _ => ⟨Y, Z⟩⟩⟩, fun _ _ => ⟨hl, hg, fun _ _ => ⟨hlf, gp, fun _ _ => ⟨Y, Z⟩⟩⟩⟩
noncomputable def con_rcheckout : Con Xp.P FMp := ⟨21, sg_rcheckout, pr_rcheckout, ps_rcheckout, vc_ok (La := la_rcheckout) (Ca := ca_rcheckout) 300 (fn := Go.Proofs.Try.f21) (by kernel_rfl) (c := cd_rcheckout) (by kernel_rfl) (by kernel_rfl) (by kernel_rfl) (by kernel_rfl) (fun ⟨⟨root, ⟨⟩⟩, ⟨i, ⟨⟨to, ⟨am, ⟨⟩⟩⟩, ⟨⟨⟨P, ⟨ps, pc⟩⟩, ⟨oth, ⟨cnt, ⟨⟩⟩⟩⟩, ⟨⟩⟩⟩⟩⟩ => vc_rcheckout root i to am P ps pc oth cnt)⟩
noncomputable def cd_rtot6 : Code := (Go.Proofs.Try.f48.body).getD .skip
def sg_rtot6 : List Arg := [.ag [.rcs 1 32, .slr 2]]
def pr_rtot6 : SgT FMp sg_rtot6 → List Prop
  | ((acc, ((A, (ou, c)), ())), ()) => (fun (acc : List (Int × Int × List Int)) (A : Option Addr) (ou : List (Int × Int)) (c : Nat) => ([a64 acc] : List Prop)) acc A ou c
def ps_rtot6 : SgT FMp sg_rtot6 → PS FMp
  | ((acc, ((A, (ou, c)), ())), ()) => (fun (acc : List (Int × Int × List Int)) (A : Option Addr) (ou : List (Int × Int)) (c : Nat) => (⟨Unit, fun y => [], fun y => .tup [.one (.xv (.int .u64 (stV acc))), .one (.xv (.int .i64 (stE acc)))], fun y => [], fun y => []⟩ : PS FMp)) acc A ou c
def la_rtot6 : SgT FMp sg_rtot6 → List (Nat × (SS FMp → HA FMp))
  | ((acc, ((A, (ou, c)), ())), ()) => (fun (acc : List (Int × Int × List Int)) (A : Option Addr) (ou : List (Int × Int)) (c : Nat) => ([(3, fun S => ⟨Int × Int, fun y => [], fun n y => [(5, some (one (.int .i64 (y.1)))), (4, some (one (.int .u64 (y.2))))], fun n y => S.m, fun y => [0 ≤ y.1, y.1 ≤ 32, y.2 = sumA acc y.1.toNat, y.2 ≤ 4611686018427387904], fun y => (32 - y.1).toNat⟩)] : List (Nat × (SS FMp → HA FMp)))) acc A ou c
def ca_rtot6 : SgT FMp sg_rtot6 → List (Nat × (SS FMp → HA FMp))
  | ((acc, ((A, (ou, c)), ())), ()) => (fun (acc : List (Int × Int × List Int)) (A : Option Addr) (ou : List (Int × Int)) (c : Nat) => ([] : List (Nat × (SS FMp → HA FMp)))) acc A ou c
theorem vc_rtot6 (acc : List (Int × Int × List Int)) (A : Option Addr) (ou : List (Int × Int)) (c : Nat) : Vc (vc (FM := FMp) Xp 26 [] (la_rtot6 ((acc, ((A, (ou, c)), ())), ())) (ca_rtot6 ((acc, ((A, (ou, c)), ())), ())) [] [] [.tmp 2, .tmp 3] sg_rtot6 pr_rtot6 ps_rtot6 cd_rtot6 300 ((acc, ((A, (ou, c)), ())), ())) := by
  refine ⟨Eq.mpr (β := acc.length = (32 : Nat) → (∀ (a : Int × Int × List Int), List.Mem a acc → a.2.2.length = (32 : Nat)) → (∀ (a : Int × Int), a ∈ ou → True) → a64 acc → ∀ (b : Nat), (∃ (y : Int × Int), (0 : Int) = y.1 ∧ (0 : Int) = y.2 ∧ acc = acc ∧ (32 : Nat) = (32 : Nat) ∧ ou.length = ou.length ∧ c = c ∧ (0 : Int) ≤ y.1 ∧ y.1 ≤ (32 : Int) ∧ y.2 = sumA acc y.1.toNat ∧ y.2 ≤ (4611686018427387904 : Int)) ∧ ∀ (y : Int × Int), acc.length = (32 : Nat) → (∀ (a : Int × Int × List Int), a ∈ acc → a.2.2.length = (32 : Nat)) → (0 : Int) ≤ y.1 → y.1 ≤ (32 : Int) → y.2 = sumA acc y.1.toNat → y.2 ≤ (4611686018427387904 : Int) → (decide (y.1 < (32 : Int)) = true → (0 : Int) ≤ y.1 ∧ y.1 < (32 : Int) ∧ y.1.toNat < (32 : Nat) ∧ (decide (IntKind.u64.wrap ((4611686018427387904 : Int) - y.2) < (acc.getD y.1.toNat ((0, 0, List.replicate 32 0) : Int × Int × List Int)).1) = true → ∃ (y : Unit), (0 : Int) = stV acc ∧ (4 : Int) = stE acc) ∧ (decide (IntKind.u64.wrap ((4611686018427387904 : Int) - y.2) < (acc.getD y.1.toNat ((0, 0, List.replicate 32 0) : Int × Int × List Int)).1) = false → (0 : Int) ≤ y.1 ∧ y.1 < (32 : Int) ∧ y.1.toNat < (32 : Nat) ∧ (-9223372036854775808 : Int) ≤ y.1 + (1 : Int) ∧ y.1 + (1 : Int) ≤ (9223372036854775807 : Int) ∧ ∃ (y_1 : Int × Int), y.1 + (1 : Int) = y_1.1 ∧ IntKind.u64.wrap (y.2 + (acc.getD y.1.toNat ((0, 0, List.replicate 32 0) : Int × Int × List Int)).1) = y_1.2 ∧ acc = acc ∧ (32 : Nat) = (32 : Nat) ∧ ou.length = ou.length ∧ c = c ∧ (0 : Int) ≤ y_1.1 ∧ y_1.1 ≤ (32 : Int) ∧ y_1.2 = sumA acc y_1.1.toNat ∧ y_1.2 ≤ (4611686018427387904 : Int) ∧ ((32 : Int) - y_1.1).toNat < ((32 : Int) - y.1).toNat)) ∧ (decide (y.1 < (32 : Int)) = false → ∃ (y_1 : Unit), y.2 = stV acc ∧ (0 : Int) = stE acc)) (by kernel_rfl) ?_⟩
  simp only [imin, imax, decide_eq_true_eq, decide_eq_false_iff_not, Prod.forall, Prod.exists, exists_eq_left', exists_eq_left, exists_and_left, exists_and_right, exists_eq_right, exists_eq, exists_eq', true_and, and_true, forall_const, exists_const, eq_self, Bool.not_eq_true, Bool.not_eq_eq_eq_not, Bool.not_true, Bool.not_false, Value.slice.injEq, Option.getD_some, imp_self, implies_true, Option.some.injEq, Addr.mk.injEq, true_or, or_true, List.length_cons, List.length_nil, Nat.zero_add, Nat.reduceAdd]
  intro hp hw hr
  refine ⟨⟨by omega, by omega, rfl, by omega⟩, fun k t _ _ h0 h1 ht h2 => ⟨fun h3 => ?_, fun h3 => ?_⟩⟩
  · have hx := hr k.toNat
    have hnn := sumA_nn hr k.toNat
    have e : sumA acc (k.toNat + 1) = sumA acc k.toNat + (acc.getD k.toNat (0, 0, List.replicate 32 0)).1 := rfl
    have e1 : (k + 1).toNat = k.toNat + 1 := by omega
    have hm := sumA_mono hr (show k.toNat + 1 ≤ 32 by omega)
    have hw1 : IntKind.u64.wrap (4611686018427387904 - t) = 4611686018427387904 - t := by rw [wrap64, Int.emod_eq_of_lt (by omega) (by omega)]
    rw [hw1]
    refine ⟨h0, h3, by omega, fun h => ?_, fun h => ?_⟩
    · have hn : ¬ stOk acc := by
        intro o
        unfold stOk at o
        omega
      exact ⟨by rw [stV, if_neg hn], by rw [stE, if_neg hn]⟩
    · rw [wrap64, Int.emod_eq_of_lt (by omega) (by omega)]
      exact ⟨h0, h3, by omega, by omega, by omega, by omega, by omega, by rw [e1, e, ht], by omega, by omega⟩
  · have hk : k.toNat = 32 := by omega
    have o : stOk acc := by rw [stOk, ← hk, ← ht]; exact h2
    exact ⟨by rw [stV, if_pos o, ht, hk], by rw [stE, if_pos o]⟩
noncomputable def con_rtot6 : Con Xp.P FMp := ⟨48, sg_rtot6, pr_rtot6, ps_rtot6, vc_ok (La := la_rtot6) (Ca := ca_rtot6) 300 (fn := Go.Proofs.Try.f48) (by kernel_rfl) (c := cd_rtot6) (by kernel_rfl) (by kernel_rfl) (by kernel_rfl) (by kernel_rfl) (fun ⟨⟨acc, ⟨⟨A, ⟨ou, c⟩⟩, ⟨⟩⟩⟩, ⟨⟩⟩ => vc_rtot6 acc A ou c)⟩
noncomputable def cd_rmay6 : Code := (Go.Proofs.Try.f18.body).getD .skip
def sg_rmay6 : List Arg := [.ag [.rcs 1 32, .slr 2]]
def pr_rmay6 : SgT FMp sg_rmay6 → List Prop
  | ((acc, ((A, (ou, c)), ())), ()) => (fun (acc : List (Int × Int × List Int)) (A : Option Addr) (ou : List (Int × Int)) (c : Nat) => ([a64 acc] : List Prop)) acc A ou c
def ps_rmay6 : SgT FMp sg_rmay6 → PS FMp
  | ((acc, ((A, (ou, c)), ())), ()) => (fun (acc : List (Int × Int × List Int)) (A : Option Addr) (ou : List (Int × Int)) (c : Nat) => (⟨Unit, fun y => [], fun y => one (.bool ((decide (stE acc = 0) && decide (ou.length ≤ 32)))), fun y => [], fun y => []⟩ : PS FMp)) acc A ou c
def la_rmay6 : SgT FMp sg_rmay6 → List (Nat × (SS FMp → HA FMp))
  | ((acc, ((A, (ou, c)), ())), ()) => (fun (acc : List (Int × Int × List Int)) (A : Option Addr) (ou : List (Int × Int)) (c : Nat) => ([] : List (Nat × (SS FMp → HA FMp)))) acc A ou c
def ca_rmay6 : SgT FMp sg_rmay6 → List (Nat × (SS FMp → HA FMp))
  | ((acc, ((A, (ou, c)), ())), ()) => (fun (acc : List (Int × Int × List Int)) (A : Option Addr) (ou : List (Int × Int)) (c : Nat) => ([] : List (Nat × (SS FMp → HA FMp)))) acc A ou c
theorem vc_rmay6 (acc : List (Int × Int × List Int)) (A : Option Addr) (ou : List (Int × Int)) (c : Nat) : Vc (vc (FM := FMp) Xp 18 [con_rtot6] (la_rmay6 ((acc, ((A, (ou, c)), ())), ())) (ca_rmay6 ((acc, ((A, (ou, c)), ())), ())) [] [] [.tmp 2] sg_rmay6 pr_rmay6 ps_rmay6 cd_rmay6 300 ((acc, ((A, (ou, c)), ())), ())) := by
  refine ⟨Eq.mpr (β := acc.length = (32 : Nat) → (∀ (a : Int × Int × List Int), List.Mem a acc → a.2.2.length = (32 : Nat)) → (∀ (a : Int × Int), a ∈ ou → True) → a64 acc → ∀ (b : Nat), ou.length = ou.length ∧ a64 acc ∧ ∀ (y : Unit), ∃ (y : Unit), (decide (stE acc = (0 : Int)) && decide ((↑ou.length : Int) ≤ (32 : Int))) = (decide (stE acc = (0 : Int)) && decide (ou.length ≤ (32 : Nat)))) (by kernel_rfl) ?_⟩
  simp only [imin, imax, decide_eq_true_eq, decide_eq_false_iff_not, Prod.forall, Prod.exists, exists_eq_left', exists_eq_left, exists_and_left, exists_and_right, exists_eq_right, exists_eq, exists_eq', true_and, and_true, forall_const, exists_const, eq_self, Bool.not_eq_true, Bool.not_eq_eq_eq_not, Bool.not_true, Bool.not_false, Value.slice.injEq, Option.getD_some, imp_self, implies_true, Option.some.injEq, Addr.mk.injEq, true_or, or_true, List.length_cons, List.length_nil, Nat.zero_add, Nat.reduceAdd]
  intro _ _ h
  refine ⟨h, ?_⟩
  congr 1
  rw [decide_eq_decide]
  omega
noncomputable def con_rmay6 : Con Xp.P FMp := ⟨18, sg_rmay6, pr_rmay6, ps_rmay6, vc_ok (La := la_rmay6) (Ca := ca_rmay6) 300 (fn := Go.Proofs.Try.f18) (by kernel_rfl) (c := cd_rmay6) (by kernel_rfl) (by kernel_rfl) (by kernel_rfl) (by kernel_rfl) (fun ⟨⟨acc, ⟨⟨A, ⟨ou, c⟩⟩, ⟨⟩⟩⟩, ⟨⟩⟩ => vc_rmay6 acc A ou c)⟩

end Go.Pw
