/-
  Walks by computing, their engine and the plain laws under them, in parts. No condition.
-/
import Derived.Test.YtogpbbgcdeiplaaSr4
section
/-
  Walks by computing. No condition.
-/
set_option linter.all false
set_option maxRecDepth 100000
set_option maxHeartbeats 1000000
namespace Go.Pw
open Go Go.Px Go.RowKit
attribute [local irreducible] shaF

def sumA (l : List (Int × Int × List Int)) : Nat → Int
  | 0 => 0
  | n + 1 => sumA l n + (l.getD n (0, 0, List.replicate 32 0)).1
def stOk (l : List (Int × Int × List Int)) : Prop := sumA l 32 ≤ 4611686018427387904
instance (l : List (Int × Int × List Int)) : Decidable (stOk l) := by unfold stOk; infer_instance
def stV (l : List (Int × Int × List Int)) : Int := if stOk l then sumA l 32 else 0
def stE (l : List (Int × Int × List Int)) : Int := if stOk l then 0 else 4
def a64 (l : List (Int × Int × List Int)) : Prop := ∀ j, (0 ≤ (l.getD j (0, 0, List.replicate 32 0)).1 ∧ (l.getD j (0, 0, List.replicate 32 0)).1 < 18446744073709551616)


theorem sumA_mono {p : List (Int × Int × List Int)} (h : a64 p) {m n : Nat} (hl : m ≤ n) : sumA p m ≤ sumA p n := by
  induction n with
  | zero => rw [show m = 0 by omega]; exact Int.le_refl _
  | succ n ih =>
    by_cases e : m = n + 1
    · subst e; exact Int.le_refl _
    · have := ih (by omega)
      have := (h n).1
      show _ ≤ sumA p n + (p.getD n _).1
      omega
theorem sumA_nn {p : List (Int × Int × List Int)} (h : a64 p) (n : Nat) : 0 ≤ sumA p n := sumA_mono h (Nat.zero_le n)
theorem rg_mem {l : List Int} (h : ∀ y ∈ l, 0 ≤ y ∧ y < 256) : rg l := get_of_mem (p := fun x => 0 ≤ x ∧ x < 256) (by omega) h
theorem rg_cnt (n : Int) : rg (cntF n) := rg_mem (frF_range _)
theorem fldOk5 {i : Int} : fldOk i 5 ↔ 0 ≤ i ∧ i < 32 := by
  unfold fldOk
  exact ⟨fun h => ⟨h.2.1, by have := h.2.2; omega⟩, fun h => ⟨by omega, h.1, by have := h.2; omega⟩⟩
theorem fldE5 {i : Int} : fldE i 5 = 0 ↔ 0 ≤ i ∧ i < 32 := by
  rw [← fldOk5, fldE]
  by_cases o : fldOk i 5
  · rw [if_pos o]; simp [o]
  · rw [if_neg o]; simp [o]
noncomputable def cd_reight : Code := (Go.Proofs.Try.f72.body).getD .skip
def sg_reight : List Arg := [.one (.int .u64)]
def pr_reight : SgT FMp sg_reight → List Prop
  | (x, ()) => (fun (x : Int) => ([] : List Prop)) x
def ps_reight : SgT FMp sg_reight → PS FMp
  | (x, ()) => (fun (x : Int) => (⟨(Option Addr) × Nat, fun y => [.ad y.1], fun y => .v (.one (.sc 0 0 ((ei8 x).length) y.2 false)), fun y => [.sl 0 ((ei8 x).length) y.2 (zz .u8 ((ei8 x)) ((ei8 x).length)) 5 1], fun y => [((ei8 x)).length ≤ y.2]⟩ : PS FMp)) x
def la_reight : SgT FMp sg_reight → List (Nat × (SS FMp → HA FMp))
  | (x, ()) => (fun (x : Int) => ([(3, fun S => ⟨Int × Nat × (List Int) × (Option Addr) × Nat, fun y => [.ad y.2.2.2.1], fun n y => [(3, some (.v (.one (.sc n 0 y.2.2.1.length y.2.2.2.2 false)))), (4, some (one (.int .i64 (y.1))))], fun n y => .sl n y.2.2.1.length y.2.2.2.2 (zz .u8 y.2.2.1 y.2.2.1.length) 5 1 :: S.m, fun y => [y.1 = 7 - (y.2.1 : Int), y.2.1 ≤ 8, y.2.2.1.length ≤ y.2.2.2.2, y.2.2.1 = itN (e8S x) y.2.1 []], fun y => 8 - y.2.1⟩)] : List (Nat × (SS FMp → HA FMp)))) x
def ca_reight : SgT FMp sg_reight → List (Nat × (SS FMp → HA FMp))
  | (x, ()) => (fun (x : Int) => ([] : List (Nat × (SS FMp → HA FMp)))) x
theorem vc_reight (x : Int) : Vc (vc (FM := FMp) Xp 19 [] (la_reight (x, ())) (ca_reight (x, ())) [] [] [.tmp 2] sg_reight pr_reight ps_reight cd_reight 300 (x, ())) := by
  refine ⟨Eq.mpr (β := (∃ (y : Int × Nat × List Int × Option Addr × Nat), Value.slice none (0 : Nat) (0 : Nat) = Value.slice y.snd.snd.2.1 y.snd.2.1.length y.snd.snd.2.2 ∧ (7 : Int) = y.1 ∧ y.snd.snd.2.1 = none ∧ y.snd.2.1.length = (0 : Nat) ∧ y.snd.snd.2.2 = (0 : Nat) ∧ y.snd.2.1 = [] ∧ y.snd.2.1.length = (0 : Nat) ∧ y.1 = (7 : Int) - (↑y.2.1 : Int) ∧ y.2.1 ≤ (8 : Nat) ∧ y.snd.2.1.length ≤ y.snd.snd.2.2 ∧ y.snd.2.1 = itN (e8S x) y.2.1 []) ∧ ∀ (y : Int × Nat × List Int × Option Addr × Nat), y.snd.2.1.length = y.snd.2.1.length → y.1 = (7 : Int) - (↑y.2.1 : Int) → y.2.1 ≤ (8 : Nat) → y.snd.2.1.length ≤ y.snd.snd.2.2 → y.snd.2.1 = itN (e8S x) y.2.1 [] → (decide ((0 : Int) ≤ y.1) = true → (-9223372036854775808 : Int) ≤ (8 : Int) * y.1 ∧ (8 : Int) * y.1 ≤ (9223372036854775807 : Int) ∧ (0 : Int) ≤ IntKind.u64.wrap ((8 : Int) * y.1) ∧ ∀ (b : Nat), y.snd.2.1.length = y.snd.2.1.length ∧ y.snd.snd.2.2 = y.snd.snd.2.2 ∧ (1 : Nat) = [IntKind.u8.wrap (shrV IntKind.u64 x (IntKind.u64.wrap ((8 : Int) * y.1)))].length ∧ (y.snd.2.1.length + (1 : Nat)) * Proofs.Try.prog.types[(5 : Nat)].bytes ≤ (140737488355328 : Nat) ∧ ∀ (A : Option Addr) (q : Nat), y.snd.2.1.length + (1 : Nat) ≤ q → (-9223372036854775808 : Int) ≤ y.1 - (1 : Int) ∧ y.1 - (1 : Int) ≤ (9223372036854775807 : Int) ∧ ∃ (y_1 : Int × Nat × List Int × Option Addr × Nat), A = y_1.snd.snd.2.1 ∧ y.snd.2.1.length + (1 : Nat) = y_1.snd.2.1.length ∧ q = y_1.snd.snd.2.2 ∧ y.1 - (1 : Int) = y_1.1 ∧ A = y_1.snd.snd.2.1 ∧ y.snd.2.1.length + (1 : Nat) = y_1.snd.2.1.length ∧ q = y_1.snd.snd.2.2 ∧ y.snd.2.1 ++ [IntKind.u8.wrap (shrV IntKind.u64 x (IntKind.u64.wrap ((8 : Int) * y.1)))] = y_1.snd.2.1 ∧ y.snd.2.1.length + [IntKind.u8.wrap (shrV IntKind.u64 x (IntKind.u64.wrap ((8 : Int) * y.1)))].length = y_1.snd.2.1.length ∧ y_1.1 = (7 : Int) - (↑y_1.2.1 : Int) ∧ y_1.2.1 ≤ (8 : Nat) ∧ y_1.snd.2.1.length ≤ y_1.snd.snd.2.2 ∧ y_1.snd.2.1 = itN (e8S x) y_1.2.1 [] ∧ (8 : Nat) - y_1.2.1 < (8 : Nat) - y.2.1) ∧ (decide ((0 : Int) ≤ y.1) = false → ∃ (y_1 : Option Addr × Nat), y.snd.snd.2.1 = y_1.1 ∧ y.snd.2.1.length = (ei8 x).length ∧ y.snd.snd.2.2 = y_1.2 ∧ y.snd.snd.2.1 = y_1.1 ∧ y.snd.2.1.length = (ei8 x).length ∧ y.snd.snd.2.2 = y_1.2 ∧ y.snd.2.1 = ei8 x ∧ y.snd.2.1.length = (ei8 x).length ∧ (ei8 x).length ≤ y_1.2)) (by kernel_rfl) ?_⟩
  simp only [imin, imax, decide_eq_true_eq, decide_eq_false_iff_not, Prod.forall, Prod.exists, exists_eq_left', exists_eq_left, exists_and_left, exists_and_right, exists_eq_right, exists_eq, exists_eq', true_and, and_true, forall_const, exists_const, eq_self, Bool.not_eq_true, Bool.not_eq_eq_eq_not, Bool.not_true, Bool.not_false, Value.slice.injEq, Option.getD_some, imp_self, implies_true, Option.some.injEq, Addr.mk.injEq, true_or, or_true, List.length_cons, List.length_nil, Nat.zero_add, Nat.reduceAdd]
  refine ⟨⟨7, 0, [], none, 0, ⟨rfl, rfl, rfl⟩, rfl, rfl, rfl, rfl, rfl, rfl, by omega, by omega, Nat.le_refl _, rfl⟩, fun i j u q hi hj hq hu => ⟨fun g => ?_, fun g => ?_⟩⟩
  · have hul : u.length = j := by rw [hu, itN_e8]
    have hw : IntKind.u64.wrap (8 * i) = 8 * i := by rw [wrap64, Int.emod_eq_of_lt (by omega) (by omega)]
    rw [hw]
    refine ⟨by omega, by omega, by omega, by rw [BY1]; omega, fun q' hq' => ⟨by omega, by omega, i - 1, j + 1, _, ?_, rfl, ?_, rfl, ?_, by omega, by omega, ?_, ?_, by omega⟩⟩
    · simp
    · simp
    · simp
    · simpa using hq'
    · rw [itN, e8S, ← hu, show 8 * (7 - (j : Int)) = 8 * i by omega]
  · have hj8 : j = 8 := by omega
    subst hj8
    have hu : u = ei8 x := hu
    subst hu
    exact ⟨rfl, rfl, rfl, rfl, hq⟩
noncomputable def con_reight : Con Xp.P FMp := ⟨72, sg_reight, pr_reight, ps_reight, vc_ok (La := la_reight) (Ca := ca_reight) 300 (fn := Go.Proofs.Try.f72) (by kernel_rfl) (c := cd_reight) (by kernel_rfl) (by kernel_rfl) (by kernel_rfl) (by kernel_rfl) (fun ⟨x, ⟨⟩⟩ => vc_reight x)⟩
noncomputable def cd_routb : Code := (Go.Proofs.Try.f45.body).getD .skip
def sg_routb : List Arg := [.ag [.int .u64, .int .u64]]
def pr_routb : SgT FMp sg_routb → List Prop
  | ((to, (am, ())), ()) => (fun (to am : Int) => ([] : List Prop)) to am
def ps_routb : SgT FMp sg_routb → PS FMp
  | ((to, (am, ())), ()) => (fun (to am : Int) => (⟨(Option Addr) × Nat, fun y => [.ad y.1], fun y => .v (.one (.sc 0 0 ((e16 to am).length) y.2 false)), fun y => [.sl 0 ((e16 to am).length) y.2 (zz .u8 ((e16 to am)) ((e16 to am).length)) 5 1], fun y => [((e16 to am)).length ≤ y.2]⟩ : PS FMp)) to am
def la_routb : SgT FMp sg_routb → List (Nat × (SS FMp → HA FMp))
  | ((to, (am, ())), ()) => (fun (to am : Int) => ([] : List (Nat × (SS FMp → HA FMp)))) to am
def ca_routb : SgT FMp sg_routb → List (Nat × (SS FMp → HA FMp))
  | ((to, (am, ())), ()) => (fun (to am : Int) => ([] : List (Nat × (SS FMp → HA FMp)))) to am
theorem vc_routb (to am : Int) : Vc (vc (FM := FMp) Xp 10 [con_reight] (la_routb ((to, (am, ())), ())) (ca_routb ((to, (am, ())), ())) [] [] [.tmp 2] sg_routb pr_routb ps_routb cd_routb 300 ((to, (am, ())), ())) := by
  refine ⟨Eq.mpr (β := ∀ (b : Nat) (y : Option Addr × Nat), (ei8 to).length = (ei8 to).length → (ei8 to).length ≤ y.2 → ∀ (y_1 : Option Addr × Nat), (ei8 am).length = (ei8 am).length → (ei8 am).length ≤ y_1.2 → (ei8 to).length = (ei8 to).length ∧ y.2 = y.2 ∧ (ei8 am).length = (ei8 am).length ∧ ((ei8 to).length + (ei8 am).length) * Proofs.Try.prog.types[(5 : Nat)].bytes ≤ (140737488355328 : Nat) ∧ ∀ (A : Option Addr) (q : Nat), (ei8 to).length + (ei8 am).length ≤ q → ∃ (y : Option Addr × Nat), A = y.1 ∧ (ei8 to).length + (ei8 am).length = (e16 to am).length ∧ q = y.2 ∧ A = y.1 ∧ (ei8 to).length + (ei8 am).length = (e16 to am).length ∧ q = y.2 ∧ ei8 to ++ ei8 am = e16 to am ∧ (ei8 to).length + (ei8 am).length = (e16 to am).length ∧ (e16 to am).length ≤ y.2) (by kernel_rfl) ?_⟩
  simp only [imin, imax, decide_eq_true_eq, decide_eq_false_iff_not, Prod.forall, Prod.exists, exists_eq_left', exists_eq_left, exists_and_left, exists_and_right, exists_eq_right, exists_eq, exists_eq', true_and, and_true, forall_const, exists_const, eq_self, Bool.not_eq_true, Bool.not_eq_eq_eq_not, Bool.not_true, Bool.not_false, Value.slice.injEq, Option.getD_some, imp_self, implies_true, Option.some.injEq, Addr.mk.injEq, true_or, or_true, List.length_cons, List.length_nil, Nat.zero_add, Nat.reduceAdd]
  intro b hb b2 hb2
  have h1 := ei8_length to
  have h2 := ei8_length am
  exact ⟨by rw [BY1]; omega, fun q hq => ⟨by simp [e16], by simp [e16], rfl, by simp [e16], by rw [e16_length]; omega⟩⟩
noncomputable def con_routb : Con Xp.P FMp := ⟨45, sg_routb, pr_routb, ps_routb, vc_ok (La := la_routb) (Ca := ca_routb) 300 (fn := Go.Proofs.Try.f45) (by kernel_rfl) (c := cd_routb) (by kernel_rfl) (by kernel_rfl) (by kernel_rfl) (by kernel_rfl) (fun ⟨⟨to, ⟨am, ⟨⟩⟩⟩, ⟨⟩⟩ => vc_routb to am)⟩
noncomputable def cd_rleaf : Code := (Go.Proofs.Try.f29.body).getD .skip
def sg_rleaf : List Arg := [.one (.sli .u8)]
def pr_rleaf : SgT FMp sg_rleaf → List Prop
  | ((A, (b, c)), ()) => (fun (A : Option Addr) (b : List Int) (c : Nat) => ([b.length ≤ 1000000, rg b] : List Prop)) A b c
def ps_rleaf : SgT FMp sg_rleaf → PS FMp
  | ((A, (b, c)), ()) => (fun (A : Option Addr) (b : List Int) (c : Nat) => (⟨Unit, fun y => [], fun y => .v (.ag (zz .u8 (leafF b) 32)), fun y => [], fun y => [(leafF b).length = 32]⟩ : PS FMp)) A b c
def la_rleaf : SgT FMp sg_rleaf → List (Nat × (SS FMp → HA FMp))
  | ((A, (b, c)), ()) => (fun (A : Option Addr) (b : List Int) (c : Nat) => ([] : List (Nat × (SS FMp → HA FMp)))) A b c
def ca_rleaf : SgT FMp sg_rleaf → List (Nat × (SS FMp → HA FMp))
  | ((A, (b, c)), ()) => (fun (A : Option Addr) (b : List Int) (c : Nat) => ([] : List (Nat × (SS FMp → HA FMp)))) A b c
theorem vc_rleaf (A : Option Addr) (b : List Int) (c : Nat) : Vc (vc (FM := FMp) Xp 7 [con_rsum] (la_rleaf ((A, (b, c)), ())) (ca_rleaf ((A, (b, c)), ())) [] [] [.cell 2 40] sg_rleaf pr_rleaf ps_rleaf cd_rleaf 300 ((A, (b, c)), ())) := by
  refine ⟨Eq.mpr (β := (A.isNone = true → b = []) → b.length ≤ (1000000 : Nat) → rg b → ∀ (b_1 b_2 : Nat), (1 : Nat) = (1 : Nat) ∧ (1 : Nat) = (1 : Nat) ∧ b.length = b.length ∧ ((1 : Nat) + b.length) * Proofs.Try.prog.types[(5 : Nat)].bytes ≤ (140737488355328 : Nat) ∧ ∀ (A : Option Addr) (q : Nat), (1 : Nat) + b.length ≤ q → (1 : Nat) + b.length = (1 : Nat) + b.length ∧ ([(0 : Int)] ++ b).length ≤ (140737488355000 : Nat) ∧ (∀ (j : Nat), (0 : Int) ≤ ([(0 : Int)] ++ b).getD j (0 : Int) ∧ ([(0 : Int)] ++ b).getD j (0 : Int) < (256 : Int)) ∧ ∀ (y : Unit), (shaF ([(0 : Int)] ++ b)).length = (32 : Nat) → (shaF ([(0 : Int)] ++ b)).length = (32 : Nat) → ∃ (y : Unit), shaF ([(0 : Int)] ++ b) = leafF b ∧ (32 : Nat) = (32 : Nat) ∧ (leafF b).length = (32 : Nat)) (by kernel_rfl) ?_⟩
  simp only [imin, imax, decide_eq_true_eq, decide_eq_false_iff_not, Prod.forall, Prod.exists, exists_eq_left', exists_eq_left, exists_and_left, exists_and_right, exists_eq_right, exists_eq, exists_eq', true_and, and_true, forall_const, exists_const, eq_self, Bool.not_eq_true, Bool.not_eq_eq_eq_not, Bool.not_true, Bool.not_false, Value.slice.injEq, Option.getD_some, imp_self, implies_true, Option.some.injEq, Addr.mk.injEq, true_or, or_true, List.length_cons, List.length_nil, Nat.zero_add, Nat.reduceAdd]
  intro _ hn hg
  refine ⟨by rw [BY1]; omega, fun q hq => ⟨by simp; omega, ?_, fun h _ => ⟨rfl, h⟩⟩⟩
  exact rg_mem fun y hy => by
    rcases List.mem_append.1 hy with h | h
    · simp only [List.mem_singleton] at h; omega
    · exact mem_of_get (p := fun x => 0 ≤ x ∧ x < 256) hg y h
noncomputable def con_rleaf : Con Xp.P FMp := ⟨29, sg_rleaf, pr_rleaf, ps_rleaf, vc_ok (La := la_rleaf) (Ca := ca_rleaf) 300 (fn := Go.Proofs.Try.f29) (by kernel_rfl) (c := cd_rleaf) (by kernel_rfl) (by kernel_rfl) (by kernel_rfl) (by kernel_rfl) (fun ⟨⟨A, ⟨b, c⟩⟩, ⟨⟩⟩ => vc_rleaf A b c)⟩
noncomputable def cd_rcounted : Code := (Go.Proofs.Try.f33.body).getD .skip
def sg_rcounted : List Arg := [.one (.int .u64)]
def pr_rcounted : SgT FMp sg_rcounted → List Prop
  | (n, ()) => (fun (n : Int) => ([] : List Prop)) n
def ps_rcounted : SgT FMp sg_rcounted → PS FMp
  | (n, ()) => (fun (n : Int) => (⟨Unit, fun y => [], fun y => .v (.ag (zz .u8 (cntF n) 32)), fun y => [], fun y => [(cntF n).length = 32]⟩ : PS FMp)) n
def la_rcounted : SgT FMp sg_rcounted → List (Nat × (SS FMp → HA FMp))
  | (n, ()) => (fun (n : Int) => ([] : List (Nat × (SS FMp → HA FMp)))) n
def ca_rcounted : SgT FMp sg_rcounted → List (Nat × (SS FMp → HA FMp))
  | (n, ()) => (fun (n : Int) => ([] : List (Nat × (SS FMp → HA FMp)))) n
theorem vc_rcounted (n : Int) : Vc (vc (FM := FMp) Xp 6 [con_rfrom] (la_rcounted (n, ())) (ca_rcounted (n, ())) [] [] [.cell 2 40] sg_rcounted pr_rcounted ps_rcounted cd_rcounted 300 (n, ())) := by
  refine ⟨Eq.mpr (β := ∀ (b : Nat) (y : Unit), (frF (32 : Nat) (32 : Nat) (((((List.replicate (4 : Nat) (0 : Int)).set (0 : Nat) (0 : Int)).set (1 : Nat) (0 : Int)).set (2 : Nat) (0 : Int)).set (3 : Nat) n)).length = (32 : Nat) → (frF (32 : Nat) (32 : Nat) (((((List.replicate (4 : Nat) (0 : Int)).set (0 : Nat) (0 : Int)).set (1 : Nat) (0 : Int)).set (2 : Nat) (0 : Int)).set (3 : Nat) n)).length = (32 : Nat) → ∃ (y : Unit), frF (32 : Nat) (32 : Nat) (((((List.replicate (4 : Nat) (0 : Int)).set (0 : Nat) (0 : Int)).set (1 : Nat) (0 : Int)).set (2 : Nat) (0 : Int)).set (3 : Nat) n) = cntF n ∧ (32 : Nat) = (32 : Nat) ∧ (cntF n).length = (32 : Nat)) (by kernel_rfl) ?_⟩
  simp only [imin, imax, decide_eq_true_eq, decide_eq_false_iff_not, Prod.forall, Prod.exists, exists_eq_left', exists_eq_left, exists_and_left, exists_and_right, exists_eq_right, exists_eq, exists_eq', true_and, and_true, forall_const, exists_const, eq_self, Bool.not_eq_true, Bool.not_eq_eq_eq_not, Bool.not_true, Bool.not_false, Value.slice.injEq, Option.getD_some, imp_self, implies_true, Option.some.injEq, Addr.mk.injEq, true_or, or_true, List.length_cons, List.length_nil, Nat.zero_add, Nat.reduceAdd]
  exact fun h _ => ⟨rfl, h⟩
noncomputable def con_rcounted : Con Xp.P FMp := ⟨33, sg_rcounted, pr_rcounted, ps_rcounted, vc_ok (La := la_rcounted) (Ca := ca_rcounted) 300 (fn := Go.Proofs.Try.f33) (by kernel_rfl) (c := cd_rcounted) (by kernel_rfl) (by kernel_rfl) (by kernel_rfl) (by kernel_rfl) (fun ⟨n, ⟨⟩⟩ => vc_rcounted n)⟩
noncomputable def cd_rjoined : Code := (Go.Proofs.Try.f34.body).getD .skip
def sg_rjoined : List Arg := [.ag [.arr .u8 32], .ag [.arr .u8 32], .one (.int .u64)]
def pr_rjoined : SgT FMp sg_rjoined → List Prop
  | ((u, ()), ((v, ()), (n, ()))) => (fun (u v : List Int) (n : Int) => ([rg u, rg v] : List Prop)) u v n
def ps_rjoined : SgT FMp sg_rjoined → PS FMp
  | ((u, ()), ((v, ()), (n, ()))) => (fun (u v : List Int) (n : Int) => (⟨Unit, fun y => [], fun y => .v (.ag (zz .u8 (topF u v n) 32)), fun y => [], fun y => [(topF u v n).length = 32]⟩ : PS FMp)) u v n
def la_rjoined : SgT FMp sg_rjoined → List (Nat × (SS FMp → HA FMp))
  | ((u, ()), ((v, ()), (n, ()))) => (fun (u v : List Int) (n : Int) => ([] : List (Nat × (SS FMp → HA FMp)))) u v n
def ca_rjoined : SgT FMp sg_rjoined → List (Nat × (SS FMp → HA FMp))
  | ((u, ()), ((v, ()), (n, ()))) => (fun (u v : List Int) (n : Int) => ([] : List (Nat × (SS FMp → HA FMp)))) u v n
theorem vc_rjoined (u v : List Int) (n : Int) : Vc (vc (FM := FMp) Xp 13 [con_rcounted, con_rpair] (la_rjoined ((u, ()), ((v, ()), (n, ())))) (ca_rjoined ((u, ()), ((v, ()), (n, ())))) [] [] [.cell 6 40] sg_rjoined pr_rjoined ps_rjoined cd_rjoined 300 ((u, ()), ((v, ()), (n, ())))) := by
  refine ⟨Eq.mpr (β := u.length = (32 : Nat) → v.length = (32 : Nat) → rg u → rg v → ∀ (b b b : Nat), (∀ (j : Nat), (0 : Int) ≤ u.getD j (0 : Int) ∧ u.getD j (0 : Int) < (256 : Int)) ∧ (∀ (j : Nat), (0 : Int) ≤ v.getD j (0 : Int) ∧ v.getD j (0 : Int) < (256 : Int)) ∧ ∀ (y : Unit), (shaF ([(1 : Int)] ++ u ++ v)).length = (32 : Nat) → (shaF ([(1 : Int)] ++ u ++ v)).length = (32 : Nat) → ∀ (y : Unit), (cntF n).length = (32 : Nat) → (cntF n).length = (32 : Nat) → (∀ (j : Nat), (0 : Int) ≤ (shaF ([(1 : Int)] ++ u ++ v)).getD j (0 : Int) ∧ (shaF ([(1 : Int)] ++ u ++ v)).getD j (0 : Int) < (256 : Int)) ∧ (∀ (j : Nat), (0 : Int) ≤ (cntF n).getD j (0 : Int) ∧ (cntF n).getD j (0 : Int) < (256 : Int)) ∧ ∀ (y : Unit), (shaF ([(1 : Int)] ++ shaF ([(1 : Int)] ++ u ++ v) ++ cntF n)).length = (32 : Nat) → (shaF ([(1 : Int)] ++ shaF ([(1 : Int)] ++ u ++ v) ++ cntF n)).length = (32 : Nat) → ∃ (y : Unit), shaF ([(1 : Int)] ++ shaF ([(1 : Int)] ++ u ++ v) ++ cntF n) = topF u v n ∧ (32 : Nat) = (32 : Nat) ∧ (topF u v n).length = (32 : Nat)) (by kernel_rfl) ?_⟩
  simp only [imin, imax, decide_eq_true_eq, decide_eq_false_iff_not, Prod.forall, Prod.exists, exists_eq_left', exists_eq_left, exists_and_left, exists_and_right, exists_eq_right, exists_eq, exists_eq', true_and, and_true, forall_const, exists_const, eq_self, Bool.not_eq_true, Bool.not_eq_eq_eq_not, Bool.not_true, Bool.not_false, Value.slice.injEq, Option.getD_some, imp_self, implies_true, Option.some.injEq, Addr.mk.injEq, true_or, or_true, List.length_cons, List.length_nil, Nat.zero_add, Nat.reduceAdd]
  exact fun _ _ gu gv => ⟨gu, gv, fun _ _ _ _ => ⟨rg_sha _, rg_cnt _, fun h _ => ⟨rfl, h⟩⟩⟩
noncomputable def con_rjoined : Con Xp.P FMp := ⟨34, sg_rjoined, pr_rjoined, ps_rjoined, vc_ok (La := la_rjoined) (Ca := ca_rjoined) 300 (fn := Go.Proofs.Try.f34) (by kernel_rfl) (c := cd_rjoined) (by kernel_rfl) (by kernel_rfl) (by kernel_rfl) (by kernel_rfl) (fun ⟨⟨u, ⟨⟩⟩, ⟨⟨v, ⟨⟩⟩, ⟨n, ⟨⟩⟩⟩⟩ => vc_rjoined u v n)⟩
noncomputable def cd_rtot6 : Code := (Go.Proofs.Try.f48.body).getD .skip
def sg_rtot6 : List Arg := [.ag [.rcs 1 32, .slr 2]]
def pr_rtot6 : SgT FMp sg_rtot6 → List Prop
  | ((acc, ((A, (ou, c)), ())), ()) => (fun (acc : List (Int × Int × List Int)) (A : Option Addr) (ou : List (Int × Int)) (c : Nat) => ([a64 acc] : List Prop)) acc A ou c
def ps_rtot6 : SgT FMp sg_rtot6 → PS FMp
  | ((acc, ((A, (ou, c)), ())), ()) => (fun (acc : List (Int × Int × List Int)) (A : Option Addr) (ou : List (Int × Int)) (c : Nat) => (⟨Unit, fun y => [], fun y => .tup [.one (.xv (.int .u64 (stV acc))), .one (.xv (.int .i64 (stE acc)))], fun y => [], fun y => []⟩ : PS FMp)) acc A ou c
def la_rtot6 : SgT FMp sg_rtot6 → List (Nat × (SS FMp → HA FMp))
  | ((acc, ((A, (ou, c)), ())), ()) => (fun (acc : List (Int × Int × List Int)) (A : Option Addr) (ou : List (Int × Int)) (c : Nat) => ([(3, fun S => ⟨Int × Int, fun y => [], fun n y => [(5, some (one (.int .i64 (y.1)))), (4, some (one (.int .u64 (y.2))))], fun n y => S.m, fun y => [0 ≤ y.1, y.1 ≤ 32, y.2 = sumA acc y.1.toNat, y.2 ≤ 4611686018427387904], fun y => (32 - y.1).toNat⟩)] : List (Nat × (SS FMp → HA FMp)))) acc A ou c
def ca_rtot6 : SgT FMp sg_rtot6 → List (Nat × (SS FMp → HA FMp))
  | ((acc, ((A, (ou, c)), ())), ()) => (fun (acc : List (Int × Int × List Int)) (A : Option Addr) (ou : List (Int × Int)) (c : Nat) => ([] : List (Nat × (SS FMp → HA FMp)))) acc A ou c
theorem vc_rtot6 (acc : List (Int × Int × List Int)) (A : Option Addr) (ou : List (Int × Int)) (c : Nat) : Vc (vc (FM := FMp) Xp 26 [] (la_rtot6 ((acc, ((A, (ou, c)), ())), ())) (ca_rtot6 ((acc, ((A, (ou, c)), ())), ())) [] [] [.tmp 2, .tmp 3] sg_rtot6 pr_rtot6 ps_rtot6 cd_rtot6 300 ((acc, ((A, (ou, c)), ())), ())) := by
  refine ⟨Eq.mpr (β := acc.length = (32 : Nat) → (∀ (a : Int × Int × List Int), List.Mem a acc → a.2.2.length = (32 : Nat)) → (∀ (a : Int × Int), a ∈ ou → True) → a64 acc → ∀ (b : Nat), (∃ (y : Int × Int), (0 : Int) = y.1 ∧ (0 : Int) = y.2 ∧ acc = acc ∧ (32 : Nat) = (32 : Nat) ∧ ou.length = ou.length ∧ c = c ∧ (0 : Int) ≤ y.1 ∧ y.1 ≤ (32 : Int) ∧ y.2 = sumA acc y.1.toNat ∧ y.2 ≤ (4611686018427387904 : Int)) ∧ ∀ (y : Int × Int), acc.length = (32 : Nat) → (∀ (a : Int × Int × List Int), a ∈ acc → a.2.2.length = (32 : Nat)) → (0 : Int) ≤ y.1 → y.1 ≤ (32 : Int) → y.2 = sumA acc y.1.toNat → y.2 ≤ (4611686018427387904 : Int) → (decide (y.1 < (32 : Int)) = true → (0 : Int) ≤ y.1 ∧ y.1 < (32 : Int) ∧ y.1.toNat < (32 : Nat) ∧ (decide (IntKind.u64.wrap ((4611686018427387904 : Int) - y.2) < (acc.getD y.1.toNat ((0, 0, List.replicate 32 0) : Int × Int × List Int)).1) = true → ∃ (y : Unit), (0 : Int) = stV acc ∧ (4 : Int) = stE acc) ∧ (decide (IntKind.u64.wrap ((4611686018427387904 : Int) - y.2) < (acc.getD y.1.toNat ((0, 0, List.replicate 32 0) : Int × Int × List Int)).1) = false → (0 : Int) ≤ y.1 ∧ y.1 < (32 : Int) ∧ y.1.toNat < (32 : Nat) ∧ (-9223372036854775808 : Int) ≤ y.1 + (1 : Int) ∧ y.1 + (1 : Int) ≤ (9223372036854775807 : Int) ∧ ∃ (y_1 : Int × Int), y.1 + (1 : Int) = y_1.1 ∧ IntKind.u64.wrap (y.2 + (acc.getD y.1.toNat ((0, 0, List.replicate 32 0) : Int × Int × List Int)).1) = y_1.2 ∧ acc = acc ∧ (32 : Nat) = (32 : Nat) ∧ ou.length = ou.length ∧ c = c ∧ (0 : Int) ≤ y_1.1 ∧ y_1.1 ≤ (32 : Int) ∧ y_1.2 = sumA acc y_1.1.toNat ∧ y_1.2 ≤ (4611686018427387904 : Int) ∧ ((32 : Int) - y_1.1).toNat < ((32 : Int) - y.1).toNat)) ∧ (decide (y.1 < (32 : Int)) = false → ∃ (y_1 : Unit), y.2 = stV acc ∧ (0 : Int) = stE acc)) (by kernel_rfl) ?_⟩
  simp only [imin, imax, decide_eq_true_eq, decide_eq_false_iff_not, Prod.forall, Prod.exists, exists_eq_left', exists_eq_left, exists_and_left, exists_and_right, exists_eq_right, exists_eq, exists_eq', true_and, and_true, forall_const, exists_const, eq_self, Bool.not_eq_true, Bool.not_eq_eq_eq_not, Bool.not_true, Bool.not_false, Value.slice.injEq, Option.getD_some, imp_self, implies_true, Option.some.injEq, Addr.mk.injEq, true_or, or_true, List.length_cons, List.length_nil, Nat.zero_add, Nat.reduceAdd]
  intro hp hw hr
  refine ⟨⟨by omega, by omega, rfl, by omega⟩, fun k t _ _ h0 h1 ht h2 => ⟨fun h3 => ?_, fun h3 => ?_⟩⟩
  · have hx := hr k.toNat
    have hnn := sumA_nn hr k.toNat
    have e : sumA acc (k.toNat + 1) = sumA acc k.toNat + (acc.getD k.toNat (0, 0, List.replicate 32 0)).1 := rfl
    have e1 : (k + 1).toNat = k.toNat + 1 := by omega
    have hm := sumA_mono hr (show k.toNat + 1 ≤ 32 by omega)
    have hw1 : IntKind.u64.wrap (4611686018427387904 - t) = 4611686018427387904 - t := by rw [wrap64, Int.emod_eq_of_lt (by omega) (by omega)]
    rw [hw1]
    refine ⟨h0, h3, by omega, fun h => ?_, fun h => ?_⟩
    · have hn : ¬ stOk acc := by
        intro o
        unfold stOk at o
        omega
      exact ⟨by rw [stV, if_neg hn], by rw [stE, if_neg hn]⟩
    · rw [wrap64, Int.emod_eq_of_lt (by omega) (by omega)]
      exact ⟨h0, h3, by omega, by omega, by omega, by omega, by omega, by rw [e1, e, ht], by omega, by omega⟩
  · have hk : k.toNat = 32 := by omega
    have o : stOk acc := by rw [stOk, ← hk, ← ht]; exact h2
    exact ⟨by rw [stV, if_pos o, ht, hk], by rw [stE, if_pos o]⟩
noncomputable def con_rtot6 : Con Xp.P FMp := ⟨48, sg_rtot6, pr_rtot6, ps_rtot6, vc_ok (La := la_rtot6) (Ca := ca_rtot6) 300 (fn := Go.Proofs.Try.f48) (by kernel_rfl) (c := cd_rtot6) (by kernel_rfl) (by kernel_rfl) (by kernel_rfl) (by kernel_rfl) (fun ⟨⟨acc, ⟨⟨A, ⟨ou, c⟩⟩, ⟨⟩⟩⟩, ⟨⟩⟩ => vc_rtot6 acc A ou c)⟩
noncomputable def cd_rmay6 : Code := (Go.Proofs.Try.f18.body).getD .skip
def sg_rmay6 : List Arg := [.ag [.rcs 1 32, .slr 2]]
def pr_rmay6 : SgT FMp sg_rmay6 → List Prop
  | ((acc, ((A, (ou, c)), ())), ()) => (fun (acc : List (Int × Int × List Int)) (A : Option Addr) (ou : List (Int × Int)) (c : Nat) => ([a64 acc] : List Prop)) acc A ou c
def ps_rmay6 : SgT FMp sg_rmay6 → PS FMp
  | ((acc, ((A, (ou, c)), ())), ()) => (fun (acc : List (Int × Int × List Int)) (A : Option Addr) (ou : List (Int × Int)) (c : Nat) => (⟨Unit, fun y => [], fun y => one (.bool ((decide (stE acc = 0) && decide (ou.length ≤ 32)))), fun y => [], fun y => []⟩ : PS FMp)) acc A ou c
def la_rmay6 : SgT FMp sg_rmay6 → List (Nat × (SS FMp → HA FMp))
  | ((acc, ((A, (ou, c)), ())), ()) => (fun (acc : List (Int × Int × List Int)) (A : Option Addr) (ou : List (Int × Int)) (c : Nat) => ([] : List (Nat × (SS FMp → HA FMp)))) acc A ou c
def ca_rmay6 : SgT FMp sg_rmay6 → List (Nat × (SS FMp → HA FMp))
  | ((acc, ((A, (ou, c)), ())), ()) => (fun (acc : List (Int × Int × List Int)) (A : Option Addr) (ou : List (Int × Int)) (c : Nat) => ([] : List (Nat × (SS FMp → HA FMp)))) acc A ou c
theorem vc_rmay6 (acc : List (Int × Int × List Int)) (A : Option Addr) (ou : List (Int × Int)) (c : Nat) : Vc (vc (FM := FMp) Xp 18 [con_rtot6] (la_rmay6 ((acc, ((A, (ou, c)), ())), ())) (ca_rmay6 ((acc, ((A, (ou, c)), ())), ())) [] [] [.tmp 2] sg_rmay6 pr_rmay6 ps_rmay6 cd_rmay6 300 ((acc, ((A, (ou, c)), ())), ())) := by
  refine ⟨Eq.mpr (β := acc.length = (32 : Nat) → (∀ (a : Int × Int × List Int), List.Mem a acc → a.2.2.length = (32 : Nat)) → (∀ (a : Int × Int), a ∈ ou → True) → a64 acc → ∀ (b : Nat), ou.length = ou.length ∧ a64 acc ∧ ∀ (y : Unit), ∃ (y : Unit), (decide (stE acc = (0 : Int)) && decide ((↑ou.length : Int) ≤ (32 : Int))) = (decide (stE acc = (0 : Int)) && decide (ou.length ≤ (32 : Nat)))) (by kernel_rfl) ?_⟩
  simp only [imin, imax, decide_eq_true_eq, decide_eq_false_iff_not, Prod.forall, Prod.exists, exists_eq_left', exists_eq_left, exists_and_left, exists_and_right, exists_eq_right, exists_eq, exists_eq', true_and, and_true, forall_const, exists_const, eq_self, Bool.not_eq_true, Bool.not_eq_eq_eq_not, Bool.not_true, Bool.not_false, Value.slice.injEq, Option.getD_some, imp_self, implies_true, Option.some.injEq, Addr.mk.injEq, true_or, or_true, List.length_cons, List.length_nil, Nat.zero_add, Nat.reduceAdd]
  intro _ _ h
  refine ⟨h, ?_⟩
  congr 1
  rw [decide_eq_decide]
  omega
noncomputable def con_rmay6 : Con Xp.P FMp := ⟨18, sg_rmay6, pr_rmay6, ps_rmay6, vc_ok (La := la_rmay6) (Ca := ca_rmay6) 300 (fn := Go.Proofs.Try.f18) (by kernel_rfl) (c := cd_rmay6) (by kernel_rfl) (by kernel_rfl) (by kernel_rfl) (by kernel_rfl) (fun ⟨⟨acc, ⟨⟨A, ⟨ou, c⟩⟩, ⟨⟩⟩⟩, ⟨⟩⟩ => vc_rmay6 acc A ou c)⟩

end Go.Pw
end
section
/-
  Walks by computing. No condition.
-/
set_option linter.all false
set_option maxRecDepth 100000
set_option maxHeartbeats 1000000
namespace Go.Pw
open Go Go.Px Go.RowKit
attribute [local irreducible] shaF

def rtR : Nat → List (List Int) → List Int
  | 0, ls => ls.getD 0 (List.replicate 32 0)
  | d + 1, ls => if ls.length = 0 then pr2 (rtR d []) (rtR d []) else if ls.length ≤ 2 ^ d then pr2 (rtR d ls) (rtR d []) else pr2 (rtR d (ls.take (2 ^ d))) (rtR d (ls.drop (2 ^ d)))
theorem rtR_length : ∀ (n : Nat) {ls : List (List Int)}, (∀ a ∈ ls, a.length = 32) → (rtR n ls).length = 32
  | 0, ls, h => by
    rw [rtR]
    by_cases hl : 0 < ls.length
    · exact mem_getD h hl _
    · rw [List.getD_eq_getElem?_getD, List.getElem?_eq_none (by omega)]; simp
  | n + 1, ls, h => by
    rw [rtR]
    split
    · exact pr2_length _ _
    · split <;> exact pr2_length _ _
theorem rtR_rg : ∀ (n : Nat) {ls : List (List Int)}, (∀ a ∈ ls, rg a) → rg (rtR n ls)
  | 0, ls, h => by rw [rtR]; exact rg_getD h _ _ (rg_z 32)
  | n + 1, ls, h => by
    rw [rtR]
    split
    · exact rg_pr2 _ _
    · split <;> exact rg_pr2 _ _
theorem rtR_nil : ∀ n, rtR n [] = emp n
  | 0 => rfl
  | n + 1 => by rw [rtR, List.length_nil, if_pos rfl, rtR_nil n, pr2, emp]
theorem lvl_nil : ∀ n, lvl [] n = []
  | 0 => rfl
  | n + 1 => by rw [lvl, lvl_nil n]; rfl
theorem lvl_app : ∀ (d : Nat) (xs ys : List (List Int)), xs.length = 2 ^ d → (∃ a, lvl xs d = [a]) ∧ lvl (xs ++ ys) d = lvl xs d ++ lvl ys d
  | 0, xs, ys, h => by
    match xs, h with
    | [x], _ => exact ⟨⟨x, rfl⟩, rfl⟩
  | d + 1, xs, ys, h => by
    have hp : 2 ^ (d + 1) = 2 ^ d * 2 := Nat.pow_succ 2 d
    have h1 : (xs.take (2 ^ d)).length = 2 ^ d := by rw [List.length_take]; omega
    have h2 : (xs.drop (2 ^ d)).length = 2 ^ d := by rw [List.length_drop]; omega
    have e : xs = xs.take (2 ^ d) ++ xs.drop (2 ^ d) := (List.take_append_drop _ _).symm
    generalize xs.take (2 ^ d) = x1 at e h1
    generalize xs.drop (2 ^ d) = x2 at e h2
    subst e
    obtain ⟨⟨a, ea⟩, e1⟩ := lvl_app d x1 (x2 ++ ys) h1
    obtain ⟨-, e2⟩ := lvl_app d x1 x2 h1
    obtain ⟨⟨b, eb⟩, e3⟩ := lvl_app d x2 ys h2
    have e4 : lvl (x1 ++ x2) (d + 1) = [pr2 a b] := by rw [lvl, e2, ea, eb]; rfl
    refine ⟨⟨_, e4⟩, ?_⟩
    rw [e4, List.append_assoc, lvl, e1, e3, ea, eb, lvl]; rfl
theorem lvl_one : ∀ (d : Nat) (ls : List (List Int)), 0 < ls.length → ls.length ≤ 2 ^ d → lvl ls d = [rtR d ls]
  | 0, ls, h0, h1 => by
    match ls, h0, h1 with
    | [x], _, _ => rfl
    | _ :: _ :: _, _, h1 => simp at h1
  | d + 1, ls, h0, h1 => by
    have hp : 2 ^ (d + 1) = 2 ^ d * 2 := Nat.pow_succ 2 d
    rw [rtR, if_neg (by omega)]
    by_cases h : ls.length ≤ 2 ^ d
    · rw [if_pos h, lvl, lvl_one d ls h0 h, rtR_nil]; rfl
    · rw [if_neg h]
      have h2 : (ls.take (2 ^ d)).length = 2 ^ d := by rw [List.length_take]; omega
      obtain ⟨-, e1⟩ := lvl_app d (ls.take (2 ^ d)) (ls.drop (2 ^ d)) h2
      rw [List.take_append_drop, lvl_one d (ls.take (2 ^ d)) (by omega) (by omega), lvl_one d (ls.drop (2 ^ d)) (by rw [List.length_drop]; omega) (by rw [List.length_drop]; omega)] at e1
      rw [lvl, e1]; rfl
theorem rt_lvl (d : Nat) (ls : List (List Int)) (h : ls.length ≤ 2 ^ d) : (lvl ls d).getD 0 (emp d) = rtR d ls := by
  by_cases h0 : 0 < ls.length
  · rw [lvl_one d ls h0 h]; rfl
  · have : ls = [] := List.eq_nil_of_length_eq_zero (by omega)
    subst this
    rw [lvl_nil, rtR_nil]; rfl
theorem sib_lvl (k : Nat) : ∀ (o : Nat) (ls : List (List Int)), (lvl ls k).getD o (emp k) = rtR k ((ls.drop (o * 2 ^ k)).take (2 ^ k))
  | 0, ls => by
    rw [Nat.zero_mul, List.drop_zero]
    by_cases h : ls.length ≤ 2 ^ k
    · rw [List.take_of_length_le h, rt_lvl k ls h]
    · have h2 : (ls.take (2 ^ k)).length = 2 ^ k := by rw [List.length_take]; omega
      obtain ⟨-, e1⟩ := lvl_app k (ls.take (2 ^ k)) (ls.drop (2 ^ k)) h2
      rw [List.take_append_drop, lvl_one k (ls.take (2 ^ k)) (by rw [h2]; exact Nat.pow_pos (by omega)) (by omega)] at e1
      rw [e1]; rfl
  | o + 1, ls => by
    by_cases h : ls.length < 2 ^ k
    · have hm : 2 ^ k ≤ (o + 1) * 2 ^ k := Nat.le_mul_of_pos_left _ (by omega)
      rw [List.drop_eq_nil_of_le (by omega), List.take_nil, rtR_nil]
      by_cases h0 : 0 < ls.length
      · rw [lvl_one k ls h0 (by omega)]; rfl
      · have : ls = [] := List.eq_nil_of_length_eq_zero (by omega)
        subst this
        rw [lvl_nil]; rfl
    · have h2 : (ls.take (2 ^ k)).length = 2 ^ k := by rw [List.length_take]; omega
      obtain ⟨⟨a, ea⟩, e1⟩ := lvl_app k (ls.take (2 ^ k)) (ls.drop (2 ^ k)) h2
      rw [List.take_append_drop, ea] at e1
      rw [e1, List.singleton_append, List.getD_cons_succ, sib_lvl k o, List.drop_drop, show 2 ^ k + o * 2 ^ k = (o + 1) * 2 ^ k by rw [Nat.add_mul]; omega]

noncomputable def cd_rroot0 : Code := (Go.Proofs.Try.f88.body).getD .skip
def sg_rroot0 : List Arg := [.one (.int .i64), .one (.slr 0)]
def pr_rroot0 (k : Nat) : SgT FMp sg_rroot0 → List Prop
  | (d, ((A, (ls, c)), ())) => (fun (d : Int) (A : Option Addr) (ls : List (List Int)) (c : Nat) => ([0 ≤ d, d < k, d ≤ 16, ls.length ≤ 2 ^ d.toNat, ls.length ≤ c, ∀ a ∈ ls, rg a] : List Prop)) d A ls c
def ps_rroot0 : SgT FMp sg_rroot0 → PS FMp
  | (d, ((A, (ls, c)), ())) => (fun (d : Int) (A : Option Addr) (ls : List (List Int)) (c : Nat) => (⟨Unit, fun y => [], fun y => .v (.ag (zz .u8 (rtR d.toNat ls) 32)), fun y => [], fun y => [(rtR d.toNat ls).length = 32, rg (rtR d.toNat ls)]⟩ : PS FMp)) d A ls c
def la_rroot0 : SgT FMp sg_rroot0 → List (Nat × (SS FMp → HA FMp))
  | (d, ((A, (ls, c)), ())) => (fun (d : Int) (A : Option Addr) (ls : List (List Int)) (c : Nat) => ([] : List (Nat × (SS FMp → HA FMp)))) d A ls c
def ca_rroot0 : SgT FMp sg_rroot0 → List (Nat × (SS FMp → HA FMp))
  | (d, ((A, (ls, c)), ())) => (fun (d : Int) (A : Option Addr) (ls : List (List Int)) (c : Nat) => ([] : List (Nat × (SS FMp → HA FMp)))) d A ls c
abbrev RT_rroot0 (k : Nat) : Prop := ∀ (w : World) (x : SgT FMp sg_rroot0), All (sgHy sg_rroot0 x) → ROk (sgBd sg_rroot0 x 0).1 w (sgBd sg_rroot0 x 0).2 → All (pr_rroot0 k x) → Calls Xp.P 88 ((sgTv sg_rroot0 x 0).map (TV.den (sgBd sg_rroot0 x 0).1)).toArray w ((ps_rroot0 x).R no w)
theorem vc_rroot0 (k : Nat) (hk : RT_rroot0 k) (d : Int) (A : Option Addr) (ls : List (List Int)) (c : Nat) : Vc (vc (FM := FMp) Xp 54 [⟨88, sg_rroot0, pr_rroot0 k, ps_rroot0, hk⟩, con_rpair] (la_rroot0 (d, ((A, (ls, c)), ()))) (ca_rroot0 (d, ((A, (ls, c)), ()))) [] [] [.cell 4 40] sg_rroot0 (pr_rroot0 (k + 1)) ps_rroot0 cd_rroot0 300 (d, ((A, (ls, c)), ()))) := by
  refine ⟨Eq.mpr (β := (∀ (a : List Int), a ∈ ls → a.length = (32 : Nat)) → (0 : Int) ≤ d → d < (↑(k + (1 : Nat)) : Int) → d ≤ (16 : Int) → ls.length ≤ (2 : Nat) ^ d.toNat → ls.length ≤ c → (∀ (a : List Int), a ∈ ls → rg a) → ∀ (b : Nat), (decide (d = (0 : Int)) = true → (decide ((0 : Int) < (↑ls.length : Int)) = true → (0 : Int) ≤ (0 : Int) ∧ (0 : Int) < (↑ls.length : Int) ∧ (0 : Nat) < ls.length ∧ (0 : Nat) < ls.length ∧ ∃ (y : Unit), ls.getD (0 : Nat) (List.replicate (32 : Nat) (0 : Int)) = rtR d.toNat ls ∧ (32 : Nat) = (32 : Nat) ∧ (rtR d.toNat ls).length = (32 : Nat) ∧ rg (rtR d.toNat ls)) ∧ (decide ((0 : Int) < (↑ls.length : Int)) = false → ∃ (y : Unit), List.replicate (32 : Nat) (0 : Int) = rtR d.toNat ls ∧ (32 : Nat) = (32 : Nat) ∧ (rtR d.toNat ls).length = (32 : Nat) ∧ rg (rtR d.toNat ls))) ∧ (decide (d = (0 : Int)) = false → (-9223372036854775808 : Int) ≤ d - (1 : Int) ∧ d - (1 : Int) ≤ (9223372036854775807 : Int) ∧ (0 : Int) ≤ IntKind.u64.wrap (d - (1 : Int)) ∧ (decide ((↑ls.length : Int) = (0 : Int)) = true → (-9223372036854775808 : Int) ≤ d - (1 : Int) ∧ d - (1 : Int) ≤ (9223372036854775807 : Int) ∧ (0 : Int) ≤ d - (1 : Int) ∧ d - (1 : Int) < (↑k : Int) ∧ d - (1 : Int) ≤ (16 : Int) ∧ (0 : Nat) ≤ (2 : Nat) ^ (d - (1 : Int)).toNat ∧ (0 : Nat) ≤ (0 : Nat) ∧ (∀ (a : List Int), a ∈ [] → rg a) ∧ ∀ (y : Unit), (rtR (d - (1 : Int)).toNat []).length = (32 : Nat) → (rtR (d - (1 : Int)).toNat []).length = (32 : Nat) → rg (rtR (d - (1 : Int)).toNat []) → ∀ (b : Nat), (∀ (j : Nat), (0 : Int) ≤ (rtR (d - (1 : Int)).toNat []).getD j (0 : Int) ∧ (rtR (d - (1 : Int)).toNat []).getD j (0 : Int) < (256 : Int)) ∧ (∀ (j : Nat), (0 : Int) ≤ (rtR (d - (1 : Int)).toNat []).getD j (0 : Int) ∧ (rtR (d - (1 : Int)).toNat []).getD j (0 : Int) < (256 : Int)) ∧ ∀ (y : Unit), (shaF ([(1 : Int)] ++ rtR (d - (1 : Int)).toNat [] ++ rtR (d - (1 : Int)).toNat [])).length = (32 : Nat) → (shaF ([(1 : Int)] ++ rtR (d - (1 : Int)).toNat [] ++ rtR (d - (1 : Int)).toNat [])).length = (32 : Nat) → ∃ (y : Unit), shaF ([(1 : Int)] ++ rtR (d - (1 : Int)).toNat [] ++ rtR (d - (1 : Int)).toNat []) = rtR d.toNat ls ∧ (32 : Nat) = (32 : Nat) ∧ (rtR d.toNat ls).length = (32 : Nat) ∧ rg (rtR d.toNat ls)) ∧ (decide ((↑ls.length : Int) = (0 : Int)) = false → (decide ((↑ls.length : Int) ≤ shlV IntKind.i64 (1 : Int) (IntKind.u64.wrap (d - (1 : Int)))) = true → (-9223372036854775808 : Int) ≤ d - (1 : Int) ∧ d - (1 : Int) ≤ (9223372036854775807 : Int) ∧ ls.length = ls.length ∧ (0 : Int) ≤ d - (1 : Int) ∧ d - (1 : Int) < (↑k : Int) ∧ d - (1 : Int) ≤ (16 : Int) ∧ ls.length ≤ (2 : Nat) ^ (d - (1 : Int)).toNat ∧ ls.length ≤ c ∧ (∀ (a : List Int), a ∈ ls → rg a) ∧ ∀ (y : Unit), (rtR (d - (1 : Int)).toNat ls).length = (32 : Nat) → (rtR (d - (1 : Int)).toNat ls).length = (32 : Nat) → rg (rtR (d - (1 : Int)).toNat ls) → (-9223372036854775808 : Int) ≤ d - (1 : Int) ∧ d - (1 : Int) ≤ (9223372036854775807 : Int) ∧ (0 : Int) ≤ d - (1 : Int) ∧ d - (1 : Int) < (↑k : Int) ∧ d - (1 : Int) ≤ (16 : Int) ∧ (0 : Nat) ≤ (2 : Nat) ^ (d - (1 : Int)).toNat ∧ (0 : Nat) ≤ (0 : Nat) ∧ (∀ (a : List Int), a ∈ [] → rg a) ∧ ∀ (y : Unit), (rtR (d - (1 : Int)).toNat []).length = (32 : Nat) → (rtR (d - (1 : Int)).toNat []).length = (32 : Nat) → rg (rtR (d - (1 : Int)).toNat []) → (∀ (j : Nat), (0 : Int) ≤ (rtR (d - (1 : Int)).toNat ls).getD j (0 : Int) ∧ (rtR (d - (1 : Int)).toNat ls).getD j (0 : Int) < (256 : Int)) ∧ (∀ (j : Nat), (0 : Int) ≤ (rtR (d - (1 : Int)).toNat []).getD j (0 : Int) ∧ (rtR (d - (1 : Int)).toNat []).getD j (0 : Int) < (256 : Int)) ∧ ∀ (y : Unit), (shaF ([(1 : Int)] ++ rtR (d - (1 : Int)).toNat ls ++ rtR (d - (1 : Int)).toNat [])).length = (32 : Nat) → (shaF ([(1 : Int)] ++ rtR (d - (1 : Int)).toNat ls ++ rtR (d - (1 : Int)).toNat [])).length = (32 : Nat) → ∃ (y : Unit), shaF ([(1 : Int)] ++ rtR (d - (1 : Int)).toNat ls ++ rtR (d - (1 : Int)).toNat []) = rtR d.toNat ls ∧ (32 : Nat) = (32 : Nat) ∧ (rtR d.toNat ls).length = (32 : Nat) ∧ rg (rtR d.toNat ls)) ∧ (decide ((↑ls.length : Int) ≤ shlV IntKind.i64 (1 : Int) (IntKind.u64.wrap (d - (1 : Int)))) = false → (-9223372036854775808 : Int) ≤ d - (1 : Int) ∧ d - (1 : Int) ≤ (9223372036854775807 : Int) ∧ (0 : Int) ≤ shlV IntKind.i64 (1 : Int) (IntKind.u64.wrap (d - (1 : Int))) ∧ shlV IntKind.i64 (1 : Int) (IntKind.u64.wrap (d - (1 : Int))) ≤ (↑c : Int) ∧ (-9223372036854775808 : Int) ≤ d - (1 : Int) ∧ d - (1 : Int) ≤ (9223372036854775807 : Int) ∧ (0 : Int) ≤ (some (shlV IntKind.i64 (1 : Int) (IntKind.u64.wrap (d - (1 : Int))))).getD (0 : Int) ∧ ((some (shlV IntKind.i64 (1 : Int) (IntKind.u64.wrap (d - (1 : Int))))).getD (0 : Int)).toNat ≤ ls.length ∧ ls.length ≤ c ∧ (shlV IntKind.i64 (1 : Int) (IntKind.u64.wrap (d - (1 : Int)))).toNat = (shlV IntKind.i64 (1 : Int) (IntKind.u64.wrap (d - (1 : Int)))).toNat ∧ (0 : Nat) + (shlV IntKind.i64 (1 : Int) (IntKind.u64.wrap (d - (1 : Int)))).toNat ≤ ls.length ∧ (0 : Int) ≤ d - (1 : Int) ∧ d - (1 : Int) < (↑k : Int) ∧ d - (1 : Int) ≤ (16 : Int) ∧ (List.take (shlV IntKind.i64 (1 : Int) (IntKind.u64.wrap (d - (1 : Int)))).toNat (List.drop (0 : Nat) ls)).length ≤ (2 : Nat) ^ (d - (1 : Int)).toNat ∧ (List.take (shlV IntKind.i64 (1 : Int) (IntKind.u64.wrap (d - (1 : Int)))).toNat (List.drop (0 : Nat) ls)).length ≤ c ∧ (∀ (a : List Int), a ∈ List.take (shlV IntKind.i64 (1 : Int) (IntKind.u64.wrap (d - (1 : Int)))).toNat (List.drop (0 : Nat) ls) → rg a) ∧ ∀ (y : Unit), (rtR (d - (1 : Int)).toNat (List.take (shlV IntKind.i64 (1 : Int) (IntKind.u64.wrap (d - (1 : Int)))).toNat (List.drop (0 : Nat) ls))).length = (32 : Nat) → (rtR (d - (1 : Int)).toNat (List.take (shlV IntKind.i64 (1 : Int) (IntKind.u64.wrap (d - (1 : Int)))).toNat (List.drop (0 : Nat) ls))).length = (32 : Nat) → rg (rtR (d - (1 : Int)).toNat (List.take (shlV IntKind.i64 (1 : Int) (IntKind.u64.wrap (d - (1 : Int)))).toNat (List.drop (0 : Nat) ls))) → ls.length - ((some (shlV IntKind.i64 (1 : Int) (IntKind.u64.wrap (d - (1 : Int))))).getD (0 : Int)).toNat = ls.length - ((some (shlV IntKind.i64 (1 : Int) (IntKind.u64.wrap (d - (1 : Int))))).getD (0 : Int)).toNat ∧ ((some (shlV IntKind.i64 (1 : Int) (IntKind.u64.wrap (d - (1 : Int))))).getD (0 : Int)).toNat + (ls.length - ((some (shlV IntKind.i64 (1 : Int) (IntKind.u64.wrap (d - (1 : Int))))).getD (0 : Int)).toNat) ≤ ls.length ∧ (0 : Int) ≤ d - (1 : Int) ∧ d - (1 : Int) < (↑k : Int) ∧ d - (1 : Int) ≤ (16 : Int) ∧ (List.take (ls.length - ((some (shlV IntKind.i64 (1 : Int) (IntKind.u64.wrap (d - (1 : Int))))).getD (0 : Int)).toNat) (List.drop ((some (shlV IntKind.i64 (1 : Int) (IntKind.u64.wrap (d - (1 : Int))))).getD (0 : Int)).toNat ls)).length ≤ (2 : Nat) ^ (d - (1 : Int)).toNat ∧ (List.take (ls.length - ((some (shlV IntKind.i64 (1 : Int) (IntKind.u64.wrap (d - (1 : Int))))).getD (0 : Int)).toNat) (List.drop ((some (shlV IntKind.i64 (1 : Int) (IntKind.u64.wrap (d - (1 : Int))))).getD (0 : Int)).toNat ls)).length ≤ c - ((some (shlV IntKind.i64 (1 : Int) (IntKind.u64.wrap (d - (1 : Int))))).getD (0 : Int)).toNat ∧ (∀ (a : List Int), a ∈ List.take (ls.length - ((some (shlV IntKind.i64 (1 : Int) (IntKind.u64.wrap (d - (1 : Int))))).getD (0 : Int)).toNat) (List.drop ((some (shlV IntKind.i64 (1 : Int) (IntKind.u64.wrap (d - (1 : Int))))).getD (0 : Int)).toNat ls) → rg a) ∧ ∀ (y : Unit), (rtR (d - (1 : Int)).toNat (List.take (ls.length - ((some (shlV IntKind.i64 (1 : Int) (IntKind.u64.wrap (d - (1 : Int))))).getD (0 : Int)).toNat) (List.drop ((some (shlV IntKind.i64 (1 : Int) (IntKind.u64.wrap (d - (1 : Int))))).getD (0 : Int)).toNat ls))).length = (32 : Nat) → (rtR (d - (1 : Int)).toNat (List.take (ls.length - ((some (shlV IntKind.i64 (1 : Int) (IntKind.u64.wrap (d - (1 : Int))))).getD (0 : Int)).toNat) (List.drop ((some (shlV IntKind.i64 (1 : Int) (IntKind.u64.wrap (d - (1 : Int))))).getD (0 : Int)).toNat ls))).length = (32 : Nat) → rg (rtR (d - (1 : Int)).toNat (List.take (ls.length - ((some (shlV IntKind.i64 (1 : Int) (IntKind.u64.wrap (d - (1 : Int))))).getD (0 : Int)).toNat) (List.drop ((some (shlV IntKind.i64 (1 : Int) (IntKind.u64.wrap (d - (1 : Int))))).getD (0 : Int)).toNat ls))) → (∀ (j : Nat), (0 : Int) ≤ (rtR (d - (1 : Int)).toNat (List.take (shlV IntKind.i64 (1 : Int) (IntKind.u64.wrap (d - (1 : Int)))).toNat (List.drop (0 : Nat) ls))).getD j (0 : Int) ∧ (rtR (d - (1 : Int)).toNat (List.take (shlV IntKind.i64 (1 : Int) (IntKind.u64.wrap (d - (1 : Int)))).toNat (List.drop (0 : Nat) ls))).getD j (0 : Int) < (256 : Int)) ∧ (∀ (j : Nat), (0 : Int) ≤ (rtR (d - (1 : Int)).toNat (List.take (ls.length - ((some (shlV IntKind.i64 (1 : Int) (IntKind.u64.wrap (d - (1 : Int))))).getD (0 : Int)).toNat) (List.drop ((some (shlV IntKind.i64 (1 : Int) (IntKind.u64.wrap (d - (1 : Int))))).getD (0 : Int)).toNat ls))).getD j (0 : Int) ∧ (rtR (d - (1 : Int)).toNat (List.take (ls.length - ((some (shlV IntKind.i64 (1 : Int) (IntKind.u64.wrap (d - (1 : Int))))).getD (0 : Int)).toNat) (List.drop ((some (shlV IntKind.i64 (1 : Int) (IntKind.u64.wrap (d - (1 : Int))))).getD (0 : Int)).toNat ls))).getD j (0 : Int) < (256 : Int)) ∧ ∀ (y : Unit), (shaF ([(1 : Int)] ++ rtR (d - (1 : Int)).toNat (List.take (shlV IntKind.i64 (1 : Int) (IntKind.u64.wrap (d - (1 : Int)))).toNat (List.drop (0 : Nat) ls)) ++ rtR (d - (1 : Int)).toNat (List.take (ls.length - ((some (shlV IntKind.i64 (1 : Int) (IntKind.u64.wrap (d - (1 : Int))))).getD (0 : Int)).toNat) (List.drop ((some (shlV IntKind.i64 (1 : Int) (IntKind.u64.wrap (d - (1 : Int))))).getD (0 : Int)).toNat ls)))).length = (32 : Nat) → (shaF ([(1 : Int)] ++ rtR (d - (1 : Int)).toNat (List.take (shlV IntKind.i64 (1 : Int) (IntKind.u64.wrap (d - (1 : Int)))).toNat (List.drop (0 : Nat) ls)) ++ rtR (d - (1 : Int)).toNat (List.take (ls.length - ((some (shlV IntKind.i64 (1 : Int) (IntKind.u64.wrap (d - (1 : Int))))).getD (0 : Int)).toNat) (List.drop ((some (shlV IntKind.i64 (1 : Int) (IntKind.u64.wrap (d - (1 : Int))))).getD (0 : Int)).toNat ls)))).length = (32 : Nat) → ∃ (y : Unit), shaF ([(1 : Int)] ++ rtR (d - (1 : Int)).toNat (List.take (shlV IntKind.i64 (1 : Int) (IntKind.u64.wrap (d - (1 : Int)))).toNat (List.drop (0 : Nat) ls)) ++ rtR (d - (1 : Int)).toNat (List.take (ls.length - ((some (shlV IntKind.i64 (1 : Int) (IntKind.u64.wrap (d - (1 : Int))))).getD (0 : Int)).toNat) (List.drop ((some (shlV IntKind.i64 (1 : Int) (IntKind.u64.wrap (d - (1 : Int))))).getD (0 : Int)).toNat ls))) = rtR d.toNat ls ∧ (32 : Nat) = (32 : Nat) ∧ (rtR d.toNat ls).length = (32 : Nat) ∧ rg (rtR d.toNat ls))))) (by kernel_rfl) ?_⟩
  simp only [imin, imax, decide_eq_true_eq, decide_eq_false_iff_not, Prod.forall, Prod.exists, exists_eq_left', exists_eq_left, exists_and_left, exists_and_right, exists_eq_right, exists_eq, exists_eq', true_and, and_true, forall_const, exists_const, eq_self, Bool.not_eq_true, Bool.not_eq_eq_eq_not, Bool.not_true, Bool.not_false, Value.slice.injEq, Option.getD_some]
  intro hls h0 h1 h16 hn hc hg
  have hL := rtR_length d.toNat hls
  have hG := rtR_rg d.toNat hg
  refine ⟨fun h2 => ?_, fun h2 => ?_⟩
  · subst h2
    refine ⟨fun h3 => ⟨by omega, h3, by omega, by omega, rfl, hL, hG⟩, fun h3 => ⟨?_, hL, hG⟩⟩
    have : ls = [] := List.eq_nil_of_length_eq_zero (by omega)
    subst this; rfl
  · obtain ⟨n, rfl⟩ : ∃ n : Nat, d = n + 1 := ⟨(d - 1).toNat, by omega⟩
    have e1 : ((n : Int) + 1 - 1) = n := by omega
    have e2 : ((n : Int) + 1).toNat = n + 1 := by omega
    have he : shlV .i64 1 (IntKind.u64.wrap (n : Int)) = ((2 ^ n : Nat) : Int) := by rw [wu64 (by omega) (by omega), shl1 (by omega) (by omega), Int.toNat_natCast]; simp
    have eR : rtR (n + 1) ls = if ls.length = 0 then pr2 (rtR n []) (rtR n []) else if ls.length ≤ 2 ^ n then pr2 (rtR n ls) (rtR n []) else pr2 (rtR n (ls.take (2 ^ n))) (rtR n (ls.drop (2 ^ n))) := by rw [rtR]
    have hp : 2 ^ (n + 1) = 2 ^ n * 2 := Nat.pow_succ 2 n
    rw [e2] at hn hL hG
    rw [hp] at hn
    have hq : 0 < 2 ^ n := Nat.pow_pos (by omega)
    simp only [e1, e2, he, Int.toNat_natCast, List.drop_zero]
    generalize 2 ^ n = q at hn eR hq
    refine ⟨by omega, by omega, wrap_nn _, fun h3 => ⟨by omega, by omega, by omega, by omega, by omega, by omega, by omega, (fun a ha => by cases ha), fun _ _ hg0 => ⟨hg0, hg0, fun _ _ => ⟨by rw [eR, if_pos (by omega), pr2], hL, hG⟩⟩⟩, fun h3 => ⟨fun h4 => ?_, fun h4 => ?_⟩⟩
    · exact ⟨by omega, by omega, by omega, by omega, by omega, by omega, hc, hg, fun _ _ hg0 => ⟨by omega, by omega, by omega, by omega, by omega, by omega, by omega, (fun a ha => by cases ha), fun _ _ hg1 => ⟨hg0, hg1, fun _ _ => ⟨by rw [eR, if_neg (by omega), if_pos (by omega), pr2], hL, hG⟩⟩⟩⟩
    · repeat refine ⟨by first | omega | with_reducible assumption | with_reducible rfl, ?_⟩
      have etk : List.take (ls.length - q) (List.drop q ls) = ls.drop q := List.take_of_length_le (by rw [List.length_drop]; omega)
      have l1 : (ls.take q).length = q := by rw [List.length_take]; omega
      have l2 : (ls.drop q).length = ls.length - q := by rw [List.length_drop]
      rw [etk]
      exact ⟨by omega, by omega, fun a ha => hg a (List.mem_of_mem_take ha), fun _ _ hg0 => ⟨by omega, by omega, by omega, by omega, by omega, by omega, fun a ha => hg a (List.mem_of_mem_drop ha), fun _ _ hg1 => ⟨hg0, hg1, fun _ _ => ⟨by rw [eR, if_neg (by omega), if_neg (by omega), pr2], hL, hG⟩⟩⟩⟩
theorem ok_rroot0 : ∀ k, RT_rroot0 k
  | 0 => fun w x _ _ h => by
    obtain ⟨d, ⟨⟨A, ⟨ls, c⟩⟩, ⟨⟩⟩⟩ := x
    exact (by have h1 := h.1; have h2 := h.2.1; omega : False).elim
  | k + 1 => vc_ok (La := la_rroot0) (Ca := ca_rroot0) 300 (fn := Go.Proofs.Try.f88) (by kernel_rfl) (c := cd_rroot0) (by kernel_rfl) (by kernel_rfl) (by kernel_rfl) (by kernel_rfl) (fun ⟨d, ⟨⟨A, ⟨ls, c⟩⟩, ⟨⟩⟩⟩ => vc_rroot0 k (ok_rroot0 k) d A ls c)
noncomputable def con_rroot0 (k : Nat) : Con Xp.P FMp := ⟨88, sg_rroot0, pr_rroot0 k, ps_rroot0, ok_rroot0 k⟩
noncomputable def cd_bad04 : Code := (Go.Proofs.Try.f87.body).getD .skip
def sg_bad04 : List Arg := [.one (.int .i64), .one (.int .i64)]
def pr_bad04 : SgT FMp sg_bad04 → List Prop
  | (d, (n, ())) => (fun (d n : Int) => ([] : List Prop)) d n
def ps_bad04 : SgT FMp sg_bad04 → PS FMp
  | (d, (n, ())) => (fun (d n : Int) => (⟨Unit, fun y => [], fun y => one (.int .i64 (askV d 0 n)), fun y => [], fun y => []⟩ : PS FMp)) d n
def la_bad04 : SgT FMp sg_bad04 → List (Nat × (SS FMp → HA FMp))
  | (d, (n, ())) => (fun (d n : Int) => ([] : List (Nat × (SS FMp → HA FMp)))) d n
def ca_bad04 : SgT FMp sg_bad04 → List (Nat × (SS FMp → HA FMp))
  | (d, (n, ())) => (fun (d n : Int) => ([] : List (Nat × (SS FMp → HA FMp)))) d n
theorem vc_bad04 (d n : Int) : Vc (vc (FM := FMp) Xp 16 [] (la_bad04 (d, (n, ()))) (ca_bad04 (d, (n, ()))) [] [] [.tmp 4] sg_bad04 pr_bad04 ps_bad04 cd_bad04 300 (d, (n, ()))) := by
  refine ⟨Eq.mpr (β := ((decide (d < (0 : Int)) || decide ((16 : Int) < d)) = true → ∃ (y : Unit), (2 : Int) = askV d (0 : Int) n) ∧ ((decide (d < (0 : Int)) || decide ((16 : Int) < d)) = false → (0 : Int) ≤ IntKind.u64.wrap d ∧ (decide (shlV IntKind.i64 (1 : Int) (IntKind.u64.wrap d) < n) = true → ∃ (y : Unit), (4 : Int) = askV d (0 : Int) n) ∧ (decide (shlV IntKind.i64 (1 : Int) (IntKind.u64.wrap d) < n) = false → ∃ (y : Unit), (0 : Int) = askV d (0 : Int) n))) (by kernel_rfl) ?_⟩
  simp only [imin, imax, decide_eq_true_eq, decide_eq_false_iff_not, Prod.forall, Prod.exists, exists_eq_left', exists_eq_left, exists_and_left, exists_and_right, exists_eq_right, exists_eq, exists_eq', true_and, and_true, forall_const, exists_const, eq_self, Bool.not_eq_true, Bool.not_eq_eq_eq_not, Bool.not_true, Bool.not_false, Value.slice.injEq, Option.getD_some]
  have hp : (0 : Int) < 2 ^ d.toNat := Int.pow_pos (by omega)
  refine ⟨fun h => ?_, fun h => ?_⟩
  · simp only [Bool.or_eq_true, decide_eq_true_eq] at h
    rw [askV, if_neg (by omega)]
  · simp only [Bool.or_eq_false_iff, decide_eq_false_iff_not] at h
    have he : shlV .i64 1 (IntKind.u64.wrap d) = 2 ^ d.toNat := by rw [wu64 (by omega) (by omega), shl1 (by omega) (by omega)]
    rw [he]
    refine ⟨wrap_nn _, fun h1 => ?_, fun h1 => ?_⟩
    · rw [askV, if_pos (by omega), if_pos h1]
    · rw [askV, if_pos (by omega), if_neg h1]
noncomputable def con_bad04 : Con Xp.P FMp := ⟨87, sg_bad04, pr_bad04, ps_bad04, vc_ok (La := la_bad04) (Ca := ca_bad04) 300 (fn := Go.Proofs.Try.f87) (by kernel_rfl) (c := cd_bad04) (by kernel_rfl) (by kernel_rfl) (by kernel_rfl) (by kernel_rfl) (fun ⟨d, ⟨n, ⟨⟩⟩⟩ => vc_bad04 d n)⟩
noncomputable def cd_rroot : Code := (Go.Proofs.Try.f63.body).getD .skip
def sg_rroot : List Arg := [.one (.int .i64), .one (.slr 0)]
def pr_rroot : SgT FMp sg_rroot → List Prop
  | (d, ((A, (ls, c)), ())) => (fun (d : Int) (A : Option Addr) (ls : List (List Int)) (c : Nat) => ([ls.length ≤ c, ∀ a ∈ ls, rg a] : List Prop)) d A ls c
def ps_rroot : SgT FMp sg_rroot → PS FMp
  | (d, ((A, (ls, c)), ())) => (fun (d : Int) (A : Option Addr) (ls : List (List Int)) (c : Nat) => (⟨Unit, fun y => [], fun y => .tup [.ag (zz .u8 (rootH d ls) 32), .one (.xv (.int .i64 (askV d 0 ls.length)))], fun y => [], fun y => [(rootH d ls).length = 32]⟩ : PS FMp)) d A ls c
def la_rroot : SgT FMp sg_rroot → List (Nat × (SS FMp → HA FMp))
  | (d, ((A, (ls, c)), ())) => (fun (d : Int) (A : Option Addr) (ls : List (List Int)) (c : Nat) => ([] : List (Nat × (SS FMp → HA FMp)))) d A ls c
def ca_rroot : SgT FMp sg_rroot → List (Nat × (SS FMp → HA FMp))
  | (d, ((A, (ls, c)), ())) => (fun (d : Int) (A : Option Addr) (ls : List (List Int)) (c : Nat) => ([] : List (Nat × (SS FMp → HA FMp)))) d A ls c
theorem vc_rroot (d : Int) (A : Option Addr) (ls : List (List Int)) (c : Nat) : Vc (vc (FM := FMp) Xp 18 [con_rroot0 17, con_bad04] (la_rroot (d, ((A, (ls, c)), ()))) (ca_rroot (d, ((A, (ls, c)), ()))) [] [] [.cell 4 40, .tmp 5] sg_rroot pr_rroot ps_rroot cd_rroot 300 (d, ((A, (ls, c)), ()))) := by
  refine ⟨Eq.mpr (β := (∀ (a : List Int), a ∈ ls → a.length = (32 : Nat)) → ls.length ≤ c → (∀ (a : List Int), a ∈ ls → rg a) → ∀ (b : Nat) (y : Unit), ((!decide (askV d (0 : Int) (↑ls.length : Int) = (0 : Int))) = true → ∃ (y : Unit), List.replicate (32 : Nat) (0 : Int) = rootH d ls ∧ (32 : Nat) = (32 : Nat) ∧ askV d (0 : Int) (↑ls.length : Int) = askV d (0 : Int) (↑ls.length : Int) ∧ (rootH d ls).length = (32 : Nat)) ∧ ((!decide (askV d (0 : Int) (↑ls.length : Int) = (0 : Int))) = false → ls.length = ls.length ∧ (0 : Int) ≤ d ∧ d < (17 : Int) ∧ d ≤ (16 : Int) ∧ ls.length ≤ (2 : Nat) ^ d.toNat ∧ ls.length ≤ c ∧ (∀ (a : List Int), a ∈ ls → rg a) ∧ ∀ (y : Unit), (rtR d.toNat ls).length = (32 : Nat) → (rtR d.toNat ls).length = (32 : Nat) → rg (rtR d.toNat ls) → ∃ (y : Unit), rtR d.toNat ls = rootH d ls ∧ (32 : Nat) = (32 : Nat) ∧ (0 : Int) = askV d (0 : Int) (↑ls.length : Int) ∧ (rootH d ls).length = (32 : Nat))) (by kernel_rfl) ?_⟩
  simp only [imin, imax, decide_eq_true_eq, decide_eq_false_iff_not, Prod.forall, Prod.exists, exists_eq_left', exists_eq_left, exists_and_left, exists_and_right, exists_eq_right, exists_eq, exists_eq', true_and, and_true, forall_const, exists_const, eq_self, Bool.not_eq_true, Bool.not_eq_eq_eq_not, Bool.not_true, Bool.not_false, Value.slice.injEq, Option.getD_some]
  intro hls hc hg
  refine ⟨fun h => ⟨by rw [rootH, if_neg h], by rw [rootH, if_neg h]; simp⟩, fun h => ?_⟩
  obtain ⟨hd0, hd1, hn, hn2⟩ := ask_root h
  have hn3 : ls.length ≤ 2 ^ d.toNat := by
    have e : ((2 ^ d.toNat : Nat) : Int) = (2 : Int) ^ d.toNat := by simp
    omega
  have e : rtR d.toNat ls = rootH d ls := by rw [rootH, if_pos h, rt_lvl _ _ hn3]
  exact ⟨hd0, by omega, hd1, hn3, hc, hg, fun h1 _ _ => ⟨e, h.symm, by rw [← e]; exact h1⟩⟩
noncomputable def con_rroot : Con Xp.P FMp := ⟨63, sg_rroot, pr_rroot, ps_rroot, vc_ok (La := la_rroot) (Ca := ca_rroot) 300 (fn := Go.Proofs.Try.f63) (by kernel_rfl) (c := cd_rroot) (by kernel_rfl) (by kernel_rfl) (by kernel_rfl) (by kernel_rfl) (fun ⟨d, ⟨⟨A, ⟨ls, c⟩⟩, ⟨⟩⟩⟩ => vc_rroot d A ls c)⟩
noncomputable def cd_rproof : Code := (Go.Proofs.Try.f64.body).getD .skip
def sg_rproof : List Arg := [.one (.int .i64), .one (.slr 0), .one (.int .i64)]
def pr_rproof : SgT FMp sg_rproof → List Prop
  | (d, ((A, (ls, c)), (i, ()))) => (fun (d : Int) (A : Option Addr) (ls : List (List Int)) (c : Nat) (i : Int) => ([ls.length ≤ c, ∀ a ∈ ls, rg a] : List Prop)) d A ls c i
def ps_rproof : SgT FMp sg_rproof → PS FMp
  | (d, ((A, (ls, c)), (i, ()))) => (fun (d : Int) (A : Option Addr) (ls : List (List Int)) (c : Nat) (i : Int) => (⟨(Option Addr) × Nat, fun y => [.ad y.1], fun y => .tup [.one (.sc 0 0 (prfL d ls i).length y.2 false), .one (.xv (.int .i64 (askV d i ls.length)))], fun y => [.sl 0 ((prfL d ls i).length) y.2 [.f 0 ((prfL d ls i)) ((prfL d ls i).length)] 40 32], fun y => [(prfL d ls i).length ≤ y.2, ∀ a ∈ prfL d ls i, a.length = 32]⟩ : PS FMp)) d A ls c i
def la_rproof : SgT FMp sg_rproof → List (Nat × (SS FMp → HA FMp))
  | (d, ((A, (ls, c)), (i, ()))) => (fun (d : Int) (A : Option Addr) (ls : List (List Int)) (c : Nat) (i : Int) => ([(8, fun S => ⟨Int × (List (List Int)) × (Option Addr) × Nat, fun y => [.ad y.2.2.1], fun n y => [(10, some (one (.int .i64 (y.1)))), (9, some (.v (.one (.sc n 0 y.2.1.length y.2.2.2 false))))], fun n y => (.sl n (y.2.1.length) y.2.2.2 [.f 0 (y.2.1) (y.2.1.length)] 40 32) :: S.m, fun y => [0 ≤ y.1, y.1 ≤ d, y.2.1 = prfN ls i.toNat y.1.toNat, y.2.1.length ≤ y.2.2.2], fun y => (d - y.1).toNat⟩)] : List (Nat × (SS FMp → HA FMp)))) d A ls c i
def ca_rproof : SgT FMp sg_rproof → List (Nat × (SS FMp → HA FMp))
  | (d, ((A, (ls, c)), (i, ()))) => (fun (d : Int) (A : Option Addr) (ls : List (List Int)) (c : Nat) (i : Int) => ([] : List (Nat × (SS FMp → HA FMp)))) d A ls c i
theorem vc_rproof (d : Int) (A : Option Addr) (ls : List (List Int)) (c : Nat) (i : Int) : Vc (vc (FM := FMp) Xp 64 [con_rroot0 17, con_bad04] (la_rproof (d, ((A, (ls, c)), (i, ())))) (ca_rproof (d, ((A, (ls, c)), (i, ())))) [] [89] [.tmp 6, .tmp 7] sg_rproof pr_rproof ps_rproof cd_rproof 300 (d, ((A, (ls, c)), (i, ())))) := by
  refine ⟨Eq.mpr (β := (∀ (a : List Int), a ∈ ls → a.length = (32 : Nat)) → ls.length ≤ c → (∀ (a : List Int), a ∈ ls → rg a) → ((decide (d < (0 : Int)) || decide ((16 : Int) < d) || decide (i < (0 : Int))) = false → (0 : Int) ≤ IntKind.u64.wrap d) ∧ ((decide (d < (0 : Int)) || decide ((16 : Int) < d) || decide (i < (0 : Int)) || decide (shlV IntKind.i64 (1 : Int) (IntKind.u64.wrap d) ≤ i)) = true → ∃ (y : Option Addr × Nat), Value.slice none (0 : Nat) (0 : Nat) = Value.slice y.1 (prfL d ls i).length y.2 ∧ (2 : Int) = askV d i (↑ls.length : Int) ∧ y.1 = none ∧ (prfL d ls i).length = (0 : Nat) ∧ y.2 = (0 : Nat) ∧ prfL d ls i = [] ∧ (prfL d ls i).length = (0 : Nat) ∧ (prfL d ls i).length ≤ y.2 ∧ ∀ (a : List Int), a ∈ prfL d ls i → a.length = (32 : Nat)) ∧ ((decide (d < (0 : Int)) || decide ((16 : Int) < d) || decide (i < (0 : Int)) || decide (shlV IntKind.i64 (1 : Int) (IntKind.u64.wrap d) ≤ i)) = false → ∀ (y : Unit), ((!decide (askV d (0 : Int) (↑ls.length : Int) = (0 : Int))) = true → ∃ (y : Option Addr × Nat), Value.slice none (0 : Nat) (0 : Nat) = Value.slice y.1 (prfL d ls i).length y.2 ∧ askV d (0 : Int) (↑ls.length : Int) = askV d i (↑ls.length : Int) ∧ y.1 = none ∧ (prfL d ls i).length = (0 : Nat) ∧ y.2 = (0 : Nat) ∧ prfL d ls i = [] ∧ (prfL d ls i).length = (0 : Nat) ∧ (prfL d ls i).length ≤ y.2 ∧ ∀ (a : List Int), a ∈ prfL d ls i → a.length = (32 : Nat)) ∧ ((!decide (askV d (0 : Int) (↑ls.length : Int) = (0 : Int))) = false → (∃ (y : Int × List (List Int) × Option Addr × Nat), (0 : Int) = y.1 ∧ Value.slice none (0 : Nat) (0 : Nat) = Value.slice y.snd.2.1 y.2.1.length y.snd.2.2 ∧ y.snd.2.1 = none ∧ y.2.1.length = (0 : Nat) ∧ y.snd.2.2 = (0 : Nat) ∧ y.2.1 = [] ∧ y.2.1.length = (0 : Nat) ∧ (0 : Int) ≤ y.1 ∧ y.1 ≤ d ∧ y.2.1 = prfN ls i.toNat y.1.toNat ∧ y.2.1.length ≤ y.snd.2.2) ∧ ∀ (y : Int × List (List Int) × Option Addr × Nat), y.2.1.length = y.2.1.length → (∀ (a : List Int), a ∈ y.2.1 → a.length = (32 : Nat)) → (0 : Int) ≤ y.1 → y.1 ≤ d → y.2.1 = prfN ls i.toNat y.1.toNat → y.2.1.length ≤ y.snd.2.2 → (decide (y.1 < d) = true → (0 : Int) ≤ IntKind.u64.wrap y.1 ∧ (0 : Int) ≤ i ∧ i ≤ (9223372036854775807 : Int) ∧ (0 : Int) < shlV IntKind.i64 (1 : Int) (IntKind.u64.wrap y.1) ∧ (-9223372036854775808 : Int) ≤ bxr IntKind.i64 (i / shlV IntKind.i64 (1 : Int) (IntKind.u64.wrap y.1)) (1 : Int) * shlV IntKind.i64 (1 : Int) (IntKind.u64.wrap y.1) ∧ bxr IntKind.i64 (i / shlV IntKind.i64 (1 : Int) (IntKind.u64.wrap y.1)) (1 : Int) * shlV IntKind.i64 (1 : Int) (IntKind.u64.wrap y.1) ≤ (9223372036854775807 : Int) ∧ (-9223372036854775808 : Int) ≤ bxr IntKind.i64 (i / shlV IntKind.i64 (1 : Int) (IntKind.u64.wrap y.1)) (1 : Int) + (1 : Int) ∧ bxr IntKind.i64 (i / shlV IntKind.i64 (1 : Int) (IntKind.u64.wrap y.1)) (1 : Int) + (1 : Int) ≤ (9223372036854775807 : Int) ∧ (-9223372036854775808 : Int) ≤ (bxr IntKind.i64 (i / shlV IntKind.i64 (1 : Int) (IntKind.u64.wrap y.1)) (1 : Int) + (1 : Int)) * shlV IntKind.i64 (1 : Int) (IntKind.u64.wrap y.1) ∧ (bxr IntKind.i64 (i / shlV IntKind.i64 (1 : Int) (IntKind.u64.wrap y.1)) (1 : Int) + (1 : Int)) * shlV IntKind.i64 (1 : Int) (IntKind.u64.wrap y.1) ≤ (9223372036854775807 : Int) ∧ (decide ((↑ls.length : Int) ≤ bxr IntKind.i64 (i / shlV IntKind.i64 (1 : Int) (IntKind.u64.wrap y.1)) (1 : Int) * shlV IntKind.i64 (1 : Int) (IntKind.u64.wrap y.1)) = true → (0 : Int) ≤ y.1 ∧ y.1 < (17 : Int) ∧ y.1 ≤ (16 : Int) ∧ (0 : Nat) ≤ (2 : Nat) ^ y.1.toNat ∧ (0 : Nat) ≤ (0 : Nat) ∧ (∀ (a : List Int), a ∈ [] → rg a) ∧ ∀ (y_1 : Unit), (rtR y.1.toNat []).length = (32 : Nat) → (rtR y.1.toNat []).length = (32 : Nat) → rg (rtR y.1.toNat []) → ∀ (b : Nat), y.2.1.length = y.2.1.length ∧ y.snd.2.2 = y.snd.2.2 ∧ (1 : Nat) = (1 : Nat) ∧ (y.2.1.length + (1 : Nat)) * Proofs.Try.prog.types[(40 : Nat)].bytes ≤ (140737488355328 : Nat) ∧ ∀ (A : Option Addr) (q : Nat), y.2.1.length + (1 : Nat) ≤ q → (-9223372036854775808 : Int) ≤ y.1 + (1 : Int) ∧ y.1 + (1 : Int) ≤ (9223372036854775807 : Int) ∧ ∃ (y_2 : Int × List (List Int) × Option Addr × Nat), y.1 + (1 : Int) = y_2.1 ∧ A = y_2.snd.2.1 ∧ y.2.1.length + (1 : Nat) = y_2.2.1.length ∧ q = y_2.snd.2.2 ∧ A = y_2.snd.2.1 ∧ y.2.1.length + (1 : Nat) = y_2.2.1.length ∧ q = y_2.snd.2.2 ∧ y.2.1 ++ [rtR y.1.toNat []] = y_2.2.1 ∧ y.2.1.length + (1 : Nat) = y_2.2.1.length ∧ (0 : Int) ≤ y_2.1 ∧ y_2.1 ≤ d ∧ y_2.2.1 = prfN ls i.toNat y_2.1.toNat ∧ y_2.2.1.length ≤ y_2.snd.2.2 ∧ (d - y_2.1).toNat < (d - y.1).toNat) ∧ (decide ((↑ls.length : Int) ≤ bxr IntKind.i64 (i / shlV IntKind.i64 (1 : Int) (IntKind.u64.wrap y.1)) (1 : Int) * shlV IntKind.i64 (1 : Int) (IntKind.u64.wrap y.1)) = false → (0 : Int) ≤ (some (bxr IntKind.i64 (i / shlV IntKind.i64 (1 : Int) (IntKind.u64.wrap y.1)) (1 : Int) * shlV IntKind.i64 (1 : Int) (IntKind.u64.wrap y.1))).getD (0 : Int) ∧ ((some (bxr IntKind.i64 (i / shlV IntKind.i64 (1 : Int) (IntKind.u64.wrap y.1)) (1 : Int) * shlV IntKind.i64 (1 : Int) (IntKind.u64.wrap y.1))).getD (0 : Int) ≤ if (↑ls.length : Int) < (bxr IntKind.i64 (i / shlV IntKind.i64 (1 : Int) (IntKind.u64.wrap y.1)) (1 : Int) + (1 : Int)) * shlV IntKind.i64 (1 : Int) (IntKind.u64.wrap y.1) then (↑ls.length : Int) else (bxr IntKind.i64 (i / shlV IntKind.i64 (1 : Int) (IntKind.u64.wrap y.1)) (1 : Int) + (1 : Int)) * shlV IntKind.i64 (1 : Int) (IntKind.u64.wrap y.1)) ∧ (if (↑ls.length : Int) < (bxr IntKind.i64 (i / shlV IntKind.i64 (1 : Int) (IntKind.u64.wrap y.1)) (1 : Int) + (1 : Int)) * shlV IntKind.i64 (1 : Int) (IntKind.u64.wrap y.1) then (↑ls.length : Int) else (bxr IntKind.i64 (i / shlV IntKind.i64 (1 : Int) (IntKind.u64.wrap y.1)) (1 : Int) + (1 : Int)) * shlV IntKind.i64 (1 : Int) (IntKind.u64.wrap y.1)) ≤ (↑c : Int) ∧ (if (↑ls.length : Int) < (bxr IntKind.i64 (i / shlV IntKind.i64 (1 : Int) (IntKind.u64.wrap y.1)) (1 : Int) + (1 : Int)) * shlV IntKind.i64 (1 : Int) (IntKind.u64.wrap y.1) then (↑ls.length : Int) else (bxr IntKind.i64 (i / shlV IntKind.i64 (1 : Int) (IntKind.u64.wrap y.1)) (1 : Int) + (1 : Int)) * shlV IntKind.i64 (1 : Int) (IntKind.u64.wrap y.1)).toNat - ((some (bxr IntKind.i64 (i / shlV IntKind.i64 (1 : Int) (IntKind.u64.wrap y.1)) (1 : Int) * shlV IntKind.i64 (1 : Int) (IntKind.u64.wrap y.1))).getD (0 : Int)).toNat = (if (↑ls.length : Int) < (bxr IntKind.i64 (i / shlV IntKind.i64 (1 : Int) (IntKind.u64.wrap y.1)) (1 : Int) + (1 : Int)) * shlV IntKind.i64 (1 : Int) (IntKind.u64.wrap y.1) then (↑ls.length : Int) else (bxr IntKind.i64 (i / shlV IntKind.i64 (1 : Int) (IntKind.u64.wrap y.1)) (1 : Int) + (1 : Int)) * shlV IntKind.i64 (1 : Int) (IntKind.u64.wrap y.1)).toNat - ((some (bxr IntKind.i64 (i / shlV IntKind.i64 (1 : Int) (IntKind.u64.wrap y.1)) (1 : Int) * shlV IntKind.i64 (1 : Int) (IntKind.u64.wrap y.1))).getD (0 : Int)).toNat ∧ ((some (bxr IntKind.i64 (i / shlV IntKind.i64 (1 : Int) (IntKind.u64.wrap y.1)) (1 : Int) * shlV IntKind.i64 (1 : Int) (IntKind.u64.wrap y.1))).getD (0 : Int)).toNat + ((if (↑ls.length : Int) < (bxr IntKind.i64 (i / shlV IntKind.i64 (1 : Int) (IntKind.u64.wrap y.1)) (1 : Int) + (1 : Int)) * shlV IntKind.i64 (1 : Int) (IntKind.u64.wrap y.1) then (↑ls.length : Int) else (bxr IntKind.i64 (i / shlV IntKind.i64 (1 : Int) (IntKind.u64.wrap y.1)) (1 : Int) + (1 : Int)) * shlV IntKind.i64 (1 : Int) (IntKind.u64.wrap y.1)).toNat - ((some (bxr IntKind.i64 (i / shlV IntKind.i64 (1 : Int) (IntKind.u64.wrap y.1)) (1 : Int) * shlV IntKind.i64 (1 : Int) (IntKind.u64.wrap y.1))).getD (0 : Int)).toNat) ≤ ls.length ∧ (0 : Int) ≤ y.1 ∧ y.1 < (17 : Int) ∧ y.1 ≤ (16 : Int) ∧ (List.take ((if (↑ls.length : Int) < (bxr IntKind.i64 (i / shlV IntKind.i64 (1 : Int) (IntKind.u64.wrap y.1)) (1 : Int) + (1 : Int)) * shlV IntKind.i64 (1 : Int) (IntKind.u64.wrap y.1) then (↑ls.length : Int) else (bxr IntKind.i64 (i / shlV IntKind.i64 (1 : Int) (IntKind.u64.wrap y.1)) (1 : Int) + (1 : Int)) * shlV IntKind.i64 (1 : Int) (IntKind.u64.wrap y.1)).toNat - ((some (bxr IntKind.i64 (i / shlV IntKind.i64 (1 : Int) (IntKind.u64.wrap y.1)) (1 : Int) * shlV IntKind.i64 (1 : Int) (IntKind.u64.wrap y.1))).getD (0 : Int)).toNat) (List.drop ((some (bxr IntKind.i64 (i / shlV IntKind.i64 (1 : Int) (IntKind.u64.wrap y.1)) (1 : Int) * shlV IntKind.i64 (1 : Int) (IntKind.u64.wrap y.1))).getD (0 : Int)).toNat ls)).length ≤ (2 : Nat) ^ y.1.toNat ∧ (List.take ((if (↑ls.length : Int) < (bxr IntKind.i64 (i / shlV IntKind.i64 (1 : Int) (IntKind.u64.wrap y.1)) (1 : Int) + (1 : Int)) * shlV IntKind.i64 (1 : Int) (IntKind.u64.wrap y.1) then (↑ls.length : Int) else (bxr IntKind.i64 (i / shlV IntKind.i64 (1 : Int) (IntKind.u64.wrap y.1)) (1 : Int) + (1 : Int)) * shlV IntKind.i64 (1 : Int) (IntKind.u64.wrap y.1)).toNat - ((some (bxr IntKind.i64 (i / shlV IntKind.i64 (1 : Int) (IntKind.u64.wrap y.1)) (1 : Int) * shlV IntKind.i64 (1 : Int) (IntKind.u64.wrap y.1))).getD (0 : Int)).toNat) (List.drop ((some (bxr IntKind.i64 (i / shlV IntKind.i64 (1 : Int) (IntKind.u64.wrap y.1)) (1 : Int) * shlV IntKind.i64 (1 : Int) (IntKind.u64.wrap y.1))).getD (0 : Int)).toNat ls)).length ≤ c - ((some (bxr IntKind.i64 (i / shlV IntKind.i64 (1 : Int) (IntKind.u64.wrap y.1)) (1 : Int) * shlV IntKind.i64 (1 : Int) (IntKind.u64.wrap y.1))).getD (0 : Int)).toNat ∧ (∀ (a : List Int), a ∈ List.take ((if (↑ls.length : Int) < (bxr IntKind.i64 (i / shlV IntKind.i64 (1 : Int) (IntKind.u64.wrap y.1)) (1 : Int) + (1 : Int)) * shlV IntKind.i64 (1 : Int) (IntKind.u64.wrap y.1) then (↑ls.length : Int) else (bxr IntKind.i64 (i / shlV IntKind.i64 (1 : Int) (IntKind.u64.wrap y.1)) (1 : Int) + (1 : Int)) * shlV IntKind.i64 (1 : Int) (IntKind.u64.wrap y.1)).toNat - ((some (bxr IntKind.i64 (i / shlV IntKind.i64 (1 : Int) (IntKind.u64.wrap y.1)) (1 : Int) * shlV IntKind.i64 (1 : Int) (IntKind.u64.wrap y.1))).getD (0 : Int)).toNat) (List.drop ((some (bxr IntKind.i64 (i / shlV IntKind.i64 (1 : Int) (IntKind.u64.wrap y.1)) (1 : Int) * shlV IntKind.i64 (1 : Int) (IntKind.u64.wrap y.1))).getD (0 : Int)).toNat ls) → rg a) ∧ ∀ (y_1 : Unit), (rtR y.1.toNat (List.take ((if (↑ls.length : Int) < (bxr IntKind.i64 (i / shlV IntKind.i64 (1 : Int) (IntKind.u64.wrap y.1)) (1 : Int) + (1 : Int)) * shlV IntKind.i64 (1 : Int) (IntKind.u64.wrap y.1) then (↑ls.length : Int) else (bxr IntKind.i64 (i / shlV IntKind.i64 (1 : Int) (IntKind.u64.wrap y.1)) (1 : Int) + (1 : Int)) * shlV IntKind.i64 (1 : Int) (IntKind.u64.wrap y.1)).toNat - ((some (bxr IntKind.i64 (i / shlV IntKind.i64 (1 : Int) (IntKind.u64.wrap y.1)) (1 : Int) * shlV IntKind.i64 (1 : Int) (IntKind.u64.wrap y.1))).getD (0 : Int)).toNat) (List.drop ((some (bxr IntKind.i64 (i / shlV IntKind.i64 (1 : Int) (IntKind.u64.wrap y.1)) (1 : Int) * shlV IntKind.i64 (1 : Int) (IntKind.u64.wrap y.1))).getD (0 : Int)).toNat ls))).length = (32 : Nat) → (rtR y.1.toNat (List.take ((if (↑ls.length : Int) < (bxr IntKind.i64 (i / shlV IntKind.i64 (1 : Int) (IntKind.u64.wrap y.1)) (1 : Int) + (1 : Int)) * shlV IntKind.i64 (1 : Int) (IntKind.u64.wrap y.1) then (↑ls.length : Int) else (bxr IntKind.i64 (i / shlV IntKind.i64 (1 : Int) (IntKind.u64.wrap y.1)) (1 : Int) + (1 : Int)) * shlV IntKind.i64 (1 : Int) (IntKind.u64.wrap y.1)).toNat - ((some (bxr IntKind.i64 (i / shlV IntKind.i64 (1 : Int) (IntKind.u64.wrap y.1)) (1 : Int) * shlV IntKind.i64 (1 : Int) (IntKind.u64.wrap y.1))).getD (0 : Int)).toNat) (List.drop ((some (bxr IntKind.i64 (i / shlV IntKind.i64 (1 : Int) (IntKind.u64.wrap y.1)) (1 : Int) * shlV IntKind.i64 (1 : Int) (IntKind.u64.wrap y.1))).getD (0 : Int)).toNat ls))).length = (32 : Nat) → rg (rtR y.1.toNat (List.take ((if (↑ls.length : Int) < (bxr IntKind.i64 (i / shlV IntKind.i64 (1 : Int) (IntKind.u64.wrap y.1)) (1 : Int) + (1 : Int)) * shlV IntKind.i64 (1 : Int) (IntKind.u64.wrap y.1) then (↑ls.length : Int) else (bxr IntKind.i64 (i / shlV IntKind.i64 (1 : Int) (IntKind.u64.wrap y.1)) (1 : Int) + (1 : Int)) * shlV IntKind.i64 (1 : Int) (IntKind.u64.wrap y.1)).toNat - ((some (bxr IntKind.i64 (i / shlV IntKind.i64 (1 : Int) (IntKind.u64.wrap y.1)) (1 : Int) * shlV IntKind.i64 (1 : Int) (IntKind.u64.wrap y.1))).getD (0 : Int)).toNat) (List.drop ((some (bxr IntKind.i64 (i / shlV IntKind.i64 (1 : Int) (IntKind.u64.wrap y.1)) (1 : Int) * shlV IntKind.i64 (1 : Int) (IntKind.u64.wrap y.1))).getD (0 : Int)).toNat ls))) → ∀ (b : Nat), y.2.1.length = y.2.1.length ∧ y.snd.2.2 = y.snd.2.2 ∧ (1 : Nat) = (1 : Nat) ∧ (y.2.1.length + (1 : Nat)) * Proofs.Try.prog.types[(40 : Nat)].bytes ≤ (140737488355328 : Nat) ∧ ∀ (A : Option Addr) (q : Nat), y.2.1.length + (1 : Nat) ≤ q → (-9223372036854775808 : Int) ≤ y.1 + (1 : Int) ∧ y.1 + (1 : Int) ≤ (9223372036854775807 : Int) ∧ ∃ (y_2 : Int × List (List Int) × Option Addr × Nat), y.1 + (1 : Int) = y_2.1 ∧ A = y_2.snd.2.1 ∧ y.2.1.length + (1 : Nat) = y_2.2.1.length ∧ q = y_2.snd.2.2 ∧ A = y_2.snd.2.1 ∧ y.2.1.length + (1 : Nat) = y_2.2.1.length ∧ q = y_2.snd.2.2 ∧ y.2.1 ++ [rtR y.1.toNat (List.take ((if (↑ls.length : Int) < (bxr IntKind.i64 (i / shlV IntKind.i64 (1 : Int) (IntKind.u64.wrap y.1)) (1 : Int) + (1 : Int)) * shlV IntKind.i64 (1 : Int) (IntKind.u64.wrap y.1) then (↑ls.length : Int) else (bxr IntKind.i64 (i / shlV IntKind.i64 (1 : Int) (IntKind.u64.wrap y.1)) (1 : Int) + (1 : Int)) * shlV IntKind.i64 (1 : Int) (IntKind.u64.wrap y.1)).toNat - ((some (bxr IntKind.i64 (i / shlV IntKind.i64 (1 : Int) (IntKind.u64.wrap y.1)) (1 : Int) * shlV IntKind.i64 (1 : Int) (IntKind.u64.wrap y.1))).getD (0 : Int)).toNat) (List.drop ((some (bxr IntKind.i64 (i / shlV IntKind.i64 (1 : Int) (IntKind.u64.wrap y.1)) (1 : Int) * shlV IntKind.i64 (1 : Int) (IntKind.u64.wrap y.1))).getD (0 : Int)).toNat ls))] = y_2.2.1 ∧ y.2.1.length + (1 : Nat) = y_2.2.1.length ∧ (0 : Int) ≤ y_2.1 ∧ y_2.1 ≤ d ∧ y_2.2.1 = prfN ls i.toNat y_2.1.toNat ∧ y_2.2.1.length ≤ y_2.snd.2.2 ∧ (d - y_2.1).toNat < (d - y.1).toNat)) ∧ (decide (y.1 < d) = false → ∃ (y_1 : Option Addr × Nat), y.snd.2.1 = y_1.1 ∧ y.2.1.length = (prfL d ls i).length ∧ y.snd.2.2 = y_1.2 ∧ (0 : Int) = askV d i (↑ls.length : Int) ∧ y.snd.2.1 = y_1.1 ∧ y.2.1.length = (prfL d ls i).length ∧ y.snd.2.2 = y_1.2 ∧ y.2.1 = prfL d ls i ∧ y.2.1.length = (prfL d ls i).length ∧ (prfL d ls i).length ≤ y_1.2 ∧ ∀ (a : List Int), a ∈ prfL d ls i → a.length = (32 : Nat))))) (by kernel_rfl) ?_⟩
  simp only [imin, imax, decide_eq_true_eq, decide_eq_false_iff_not, Prod.forall, Prod.exists, exists_eq_left', exists_eq_left, exists_and_left, exists_and_right, exists_eq_right, exists_eq, exists_eq', true_and, and_true, forall_const, exists_const, eq_self, Bool.not_eq_true, Bool.not_eq_eq_eq_not, Bool.not_true, Bool.not_false, Value.slice.injEq, Option.getD_some]
  intro hls hc hg
  have hp : ∀ n : Nat, (0 : Int) < 2 ^ n := fun n => Int.pow_pos (by omega)
  refine ⟨fun _ => wrap_nn _, fun h => ?_, fun h => ?_⟩
  · have hn : askV d i ls.length = 2 := by
      simp only [Bool.or_eq_true, decide_eq_true_eq] at h
      rw [askV, if_neg]
      intro ⟨a, b, c, e⟩
      rw [wu64 (by omega) (by omega), shl1 (by omega) (by omega)] at h
      omega
    have e : prfL d ls i = [] := by rw [prfL, if_neg (by omega)]
    rw [e, hn]
    exact ⟨none, 0, ⟨rfl, rfl, rfl⟩, rfl, rfl, rfl, rfl, rfl, rfl, Nat.le_refl _, fun a ha => by cases ha⟩
  · simp only [Bool.or_eq_false_iff, decide_eq_false_iff_not] at h
    have hi0 : 0 ≤ i := by omega
    have h16 := pow16 (n := d.toNat) (by omega)
    have hi1 : i < 2 ^ d.toNat := by
      have := h.2
      rw [wu64 (by omega) (by omega), shl1 (by omega) (by omega)] at this
      omega
    have ea : askV d 0 ls.length = askV d i ls.length := by
      have := hp d.toNat
      rw [askV, askV, if_pos (show 0 ≤ d ∧ d ≤ 16 ∧ (0 : Int) ≤ 0 ∧ (0 : Int) < 2 ^ d.toNat from ⟨by omega, by omega, by omega, this⟩), if_pos (show 0 ≤ d ∧ d ≤ 16 ∧ 0 ≤ i ∧ i < 2 ^ d.toNat from ⟨by omega, by omega, hi0, hi1⟩)]
    rw [ea]
    refine ⟨fun h1 => ⟨none, 0, by rw [prfL, if_neg h1]; exact ⟨⟨rfl, rfl, rfl⟩, rfl, rfl, rfl, rfl, rfl, rfl, Nat.le_refl _, fun a ha => by cases ha⟩⟩, fun h1 => ⟨⟨[], none, 0, ⟨rfl, rfl, rfl⟩, rfl, rfl, rfl, rfl, rfl, by omega, by omega, by simp [prfN], by simp⟩, fun t p cp hpa h2 h3 h4 h5 => ⟨fun h6 => ?_, fun h6 => ?_⟩⟩⟩
    · obtain ⟨n, rfl⟩ : ∃ n : Nat, t = n := ⟨t.toNat, by omega⟩
      have he : shlV .i64 1 (IntKind.u64.wrap (n : Int)) = ((2 ^ n : Nat) : Int) := by rw [wu64 (by omega) (by omega), shl1 (by omega) (by omega), Int.toNat_natCast]; simp
      have hp5 := prfN_succ ls i.toNat n
      rw [sib_lvl] at hp5
      have hm := Nat.div_le_self i.toNat (2 ^ n)
      have ho : bxr .i64 (i / ((2 ^ n : Nat) : Int)) 1 = ((i.toNat / 2 ^ n ^^^ 1 : Nat) : Int) := by
        have e : i / ((2 ^ n : Nat) : Int) = ((i.toNat / 2 ^ n : Nat) : Int) := by rw [Int.natCast_ediv, Int.toNat_of_nonneg hi0]
        rw [e]
        generalize i.toNat / 2 ^ n = m at hm ⊢
        rw [xor1 (by omega) (by omega), Int.toNat_natCast]
      have hob : i.toNat / 2 ^ n ^^^ 1 < 2 ^ 16 := Nat.xor_lt_two_pow (by omega) (by omega)
      have hqb : 2 ^ n ≤ 2 ^ 16 := Nat.pow_le_pow_right (by omega) (by omega)
      have hq0 : 0 < 2 ^ n := Nat.pow_pos (by omega)
      rw [Int.toNat_natCast] at h4
      have hpl : p.length = n := by rw [h4, prfN_length]
      simp only [he, ho, Int.toNat_natCast]
      generalize i.toNat / 2 ^ n ^^^ 1 = o at hp5 hob ⊢
      generalize 2 ^ n = q at hp5 hqb hq0 ⊢
      have hX : o * q ≤ 2 ^ 16 * 2 ^ 16 := Nat.mul_le_mul (by omega) hqb
      have c1 : (o : Int) * (q : Int) = ((o * q : Nat) : Int) := by simp
      have c2 : ((o : Int) + 1) * (q : Int) = ((o * q + q : Nat) : Int) := by rw [Int.add_mul, Int.one_mul, c1]; simp
      simp only [c1, c2, Int.toNat_natCast]
      generalize o * q = X at hp5 hX ⊢
      refine ⟨wrap_nn _, by omega, by omega, by omega, by omega, by omega, by omega, by omega, by omega, by omega, fun h7 => ⟨by omega, by omega, by omega, by omega, by omega, (fun a ha => by cases ha), fun _ _ _ => ⟨by rw [BY32]; omega, fun q1 hq1 => ⟨by omega, by omega, p ++ [rtR n []], by simp, by simp, rfl, by simp, by omega, by omega, ?_, by simp; omega, by omega⟩⟩⟩, fun h7 => ?_⟩
      · rw [show ((n : Int) + 1).toNat = n + 1 by omega, hp5, List.drop_eq_nil_of_le (by omega), List.take_nil, h4]
      · have eM : ∃ M : Nat, (if (ls.length : Int) < ((X + q : Nat) : Int) then (ls.length : Int) else ((X + q : Nat) : Int)) = (M : Int) ∧ X ≤ M ∧ M ≤ ls.length ∧ (ls.drop X).take (M - X) = (ls.drop X).take q := by
          by_cases hl : (ls.length : Int) < ((X + q : Nat) : Int)
          · rw [if_pos hl]
            exact ⟨ls.length, rfl, by omega, by omega, by rw [List.take_of_length_le (by rw [List.length_drop]; omega), List.take_of_length_le (by rw [List.length_drop]; omega)]⟩
          · rw [if_neg hl]
            exact ⟨X + q, rfl, by omega, by omega, by rw [Nat.add_sub_cancel_left]⟩
        obtain ⟨M, e1, e2, e3, e4⟩ := eM
        simp only [e1, Int.toNat_natCast, e4]
        have hl4 : ((ls.drop X).take q).length ≤ q := by rw [List.length_take]; omega
        have hl5 : ((ls.drop X).take q).length = M - X := by rw [← e4, List.length_take, List.length_drop]; omega
        repeat refine ⟨by first | omega | with_reducible assumption | with_reducible rfl, ?_⟩
        exact ⟨fun a ha => hg a (List.mem_of_mem_drop (List.mem_of_mem_take ha)), fun _ _ _ => ⟨by rw [BY32]; omega, fun q1 hq1 => ⟨by omega, by omega, p ++ [rtR n (List.take q (List.drop X ls))], by simp, by simp, rfl, by simp, by omega, by omega, by rw [show ((n : Int) + 1).toNat = n + 1 by omega, hp5, h4], by simp; omega, by omega⟩⟩⟩
    · have e : prfL d ls i = p := by rw [prfL, if_pos h1, h4, show t.toNat = d.toNat by omega]
      rw [e]
      exact ⟨rfl, h1.symm, rfl, rfl, rfl, h5, hpa⟩
noncomputable def con_rproof : Con Xp.P FMp := ⟨64, sg_rproof, pr_rproof, ps_rproof, vc_ok (La := la_rproof) (Ca := ca_rproof) 300 (fn := Go.Proofs.Try.f64) (by kernel_rfl) (c := cd_rproof) (by kernel_rfl) (by kernel_rfl) (by kernel_rfl) (by kernel_rfl) (fun ⟨d, ⟨⟨A, ⟨ls, c⟩⟩, ⟨i, ⟨⟩⟩⟩⟩ => vc_rproof d A ls c i)⟩

end Go.Pw
end
section
/-
  Walks by computing. No condition.
-/
set_option linter.all false
set_option maxRecDepth 100000
set_option maxHeartbeats 1000000
namespace Go.Pw
open Go Go.Px Go.RowKit
attribute [local irreducible] shaF

def a48 (b n : Int) (l : List Int) : List Int := ei8 b ++ ei8 n ++ l
def accL (acc : List (Int × Int × List Int)) : List (List Int) := acc.map fun a => leafF (a48 a.1 a.2.1 a.2.2)
def outL (ou : List (Int × Int)) : List (List Int) := ou.map fun o => leafF (e16 o.1 o.2)
def st6 (acc : List (Int × Int × List Int)) (ou : List (Int × Int)) : Prop := stE acc = 0 ∧ ou.length ≤ 32
instance (acc : List (Int × Int × List Int)) (ou : List (Int × Int)) : Decidable (st6 acc ou) := by unfold st6; infer_instance
def rt6 (acc : List (Int × Int × List Int)) (ou : List (Int × Int)) : List Int := if st6 acc ou then topF (rootH 5 (accL acc)) (rootH 5 (outL ou)) ou.length else List.replicate 32 0
def rtE6 (acc : List (Int × Int × List Int)) (ou : List (Int × Int)) : Int := if st6 acc ou then 0 else 2
/-- What a withdrawal's witness is. -/
def poRes (acc : List (Int × Int × List Int)) (ou : List (Int × Int)) (i : Int) (p : List (List Int)) (oth : List Int) (cnt ee : Int) : Prop :=
  ((st6 acc ou ∧ 0 ≤ i ∧ i < ou.length) ∧ ee = 0 ∧ p = prfL 5 (outL ou) i ∧ oth = rootH 5 (accL acc) ∧ cnt = ou.length) ∨
  (¬ (st6 acc ou ∧ 0 ≤ i ∧ i < ou.length) ∧ ee = 2 ∧ p = [] ∧ oth = List.replicate 32 0 ∧ cnt = 0)


theorem accL_length (acc : List (Int × Int × List Int)) : (accL acc).length = acc.length := by simp [accL]
theorem outL_length (ou : List (Int × Int)) : (outL ou).length = ou.length := by simp [outL]
theorem accLg (acc : List (Int × Int × List Int)) : ∀ a ∈ accL acc, rg a := fun a ha => by
  obtain ⟨x, -, rfl⟩ := List.mem_map.1 ha; exact rg_sha _
theorem outLg (ou : List (Int × Int)) : ∀ a ∈ outL ou, rg a := fun a ha => by
  obtain ⟨x, -, rfl⟩ := List.mem_map.1 ha; exact rg_sha _
theorem ask5 {i : Int} {n : Nat} (h0 : 0 ≤ i) (h1 : i < 32) (hn : n ≤ 32) : askV 5 i n = 0 := by
  have e : (2 : Int) ^ (5 : Int).toNat = 32 := by decide
  unfold askV
  rw [e, if_pos ⟨by omega, by omega, h0, h1⟩, if_neg (by omega)]
theorem root5 {ls : List (List Int)} (h : ls.length ≤ 32) : rootH 5 ls = rtR 5 ls := by
  rw [rootH, if_pos (ask5 (by omega) (by omega) h)]
  exact rt_lvl 5 ls h
theorem rg_root (ls : List (List Int)) (hg : ∀ a ∈ ls, rg a) (h : ls.length ≤ 32) : rg (rootH 5 ls) := by
  rw [root5 h]; exact rtR_rg 5 hg
theorem take_snoc {α β : Type} {f : α → β} {l : List α} {k : Nat} {d : α} (h : k < l.length) : (l.map f).take (k + 1) = (l.map f).take k ++ [f (l.getD k d)] := by
  rw [List.take_add_one, List.getElem?_map, List.getD_eq_getElem?_getD, List.getElem?_eq_getElem h]
  rfl
theorem gd_mem {α : Type} {l : List α} {i : Nat} {d : α} (h : i < l.length) : l.getD i d ∈ l := by
  rw [List.getD_eq_getElem?_getD, List.getElem?_eq_getElem h]
  exact List.getElem_mem h
theorem BYh6 : Go.Proofs.Try.prog.types[40].bytes = 32 := by kernel_rfl
noncomputable def cd_raccb : Code := (Go.Proofs.Try.f30.body).getD .skip
def sg_raccb : List Arg := [.ag [.int .u64, .int .u64, .arr .u8 32]]
def pr_raccb : SgT FMp sg_raccb → List Prop
  | ((b, (nn, (lk, ()))), ()) => (fun (b nn : Int) (lk : List Int) => ([] : List Prop)) b nn lk
def ps_raccb : SgT FMp sg_raccb → PS FMp
  | ((b, (nn, (lk, ()))), ()) => (fun (b nn : Int) (lk : List Int) => (⟨(Option Addr) × Nat, fun y => [.ad y.1], fun y => .v (.one (.sc 0 0 ((a48 b nn lk).length) y.2 false)), fun y => [.sl 0 ((a48 b nn lk).length) y.2 (zz .u8 ((a48 b nn lk)) ((a48 b nn lk).length)) 5 1], fun y => [((a48 b nn lk)).length ≤ y.2]⟩ : PS FMp)) b nn lk
def la_raccb : SgT FMp sg_raccb → List (Nat × (SS FMp → HA FMp))
  | ((b, (nn, (lk, ()))), ()) => (fun (b nn : Int) (lk : List Int) => ([] : List (Nat × (SS FMp → HA FMp)))) b nn lk
def ca_raccb : SgT FMp sg_raccb → List (Nat × (SS FMp → HA FMp))
  | ((b, (nn, (lk, ()))), ()) => (fun (b nn : Int) (lk : List Int) => ([] : List (Nat × (SS FMp → HA FMp)))) b nn lk
theorem vc_raccb (b nn : Int) (lk : List Int) : Vc (vc (FM := FMp) Xp 13 [con_reight] (la_raccb ((b, (nn, (lk, ()))), ())) (ca_raccb ((b, (nn, (lk, ()))), ())) [] [] [.tmp 2] sg_raccb pr_raccb ps_raccb cd_raccb 300 ((b, (nn, (lk, ()))), ())) := by
  refine ⟨Eq.mpr (β := lk.length = (32 : Nat) → ∀ (b_1 : Nat) (y : Option Addr × Nat), (ei8 b).length = (ei8 b).length → (ei8 b).length ≤ y.2 → ∀ (y_1 : Option Addr × Nat), (ei8 nn).length = (ei8 nn).length → (ei8 nn).length ≤ y_1.2 → (ei8 b).length = (ei8 b).length ∧ y.2 = y.2 ∧ (ei8 nn).length = (ei8 nn).length ∧ ((ei8 b).length + (ei8 nn).length) * Proofs.Try.prog.types[(5 : Nat)].bytes ≤ (140737488355328 : Nat) ∧ ∀ (A : Option Addr) (q : Nat), (ei8 b).length + (ei8 nn).length ≤ q → (ei8 b).length + (ei8 nn).length = (ei8 b).length + (ei8 nn).length ∧ q = q ∧ (32 : Nat) = (32 : Nat) ∧ ((ei8 b).length + (ei8 nn).length + (32 : Nat)) * Proofs.Try.prog.types[(5 : Nat)].bytes ≤ (140737488355328 : Nat) ∧ ∀ (A : Option Addr) (q : Nat), (ei8 b).length + (ei8 nn).length + (32 : Nat) ≤ q → ∃ (y : Option Addr × Nat), A = y.1 ∧ (ei8 b).length + (ei8 nn).length + (32 : Nat) = (a48 b nn lk).length ∧ q = y.2 ∧ A = y.1 ∧ (ei8 b).length + (ei8 nn).length + (32 : Nat) = (a48 b nn lk).length ∧ q = y.2 ∧ ei8 b ++ ei8 nn ++ lk = a48 b nn lk ∧ (ei8 b).length + (ei8 nn).length + (32 : Nat) = (a48 b nn lk).length ∧ (a48 b nn lk).length ≤ y.2) (by kernel_rfl) ?_⟩
  simp only [imin, imax, decide_eq_true_eq, decide_eq_false_iff_not, Prod.forall, Prod.exists, exists_eq_left', exists_eq_left, exists_and_left, exists_and_right, exists_eq_right, exists_eq, exists_eq', true_and, and_true, forall_const, exists_const, eq_self, Bool.not_eq_true, Bool.not_eq_eq_eq_not, Bool.not_true, Bool.not_false, Value.slice.injEq, Option.getD_some, imp_self, implies_true, Option.some.injEq, Addr.mk.injEq, true_or, or_true, List.length_cons, List.length_nil, Nat.zero_add, Nat.reduceAdd]
  intro hlk b1 _ b2 _
  have h1 := ei8_length b
  have h2 := ei8_length nn
  exact ⟨by rw [BY1]; omega, fun q hq => ⟨by rw [BY1]; omega, fun q' hq' => ⟨by simp [a48]; omega, by simp [a48]; omega, rfl, by simp [a48]; omega, by simp [a48]; omega⟩⟩⟩
noncomputable def con_raccb : Con Xp.P FMp := ⟨30, sg_raccb, pr_raccb, ps_raccb, vc_ok (La := la_raccb) (Ca := ca_raccb) 300 (fn := Go.Proofs.Try.f30) (by kernel_rfl) (c := cd_raccb) (by kernel_rfl) (by kernel_rfl) (by kernel_rfl) (by kernel_rfl) (fun ⟨⟨b, ⟨nn, ⟨lk, ⟨⟩⟩⟩⟩, ⟨⟩⟩ => vc_raccb b nn lk)⟩
noncomputable def cd_rleaves : Code := (Go.Proofs.Try.f62.body).getD .skip
def sg_rleaves : List Arg := [.ag [.rcs 1 32, .slr 2]]
def pr_rleaves : SgT FMp sg_rleaves → List Prop
  | ((acc, ((A, (ou, c)), ())), ()) => (fun (acc : List (Int × Int × List Int)) (A : Option Addr) (ou : List (Int × Int)) (c : Nat) => ([∀ a ∈ acc, rg a.2.2, ou.length ≤ 4398046511104] : List Prop)) acc A ou c
def ps_rleaves : SgT FMp sg_rleaves → PS FMp
  | ((acc, ((A, (ou, c)), ())), ()) => (fun (acc : List (Int × Int × List Int)) (A : Option Addr) (ou : List (Int × Int)) (c : Nat) => (⟨(Option Addr) × Nat × (Option Addr) × Nat, fun y => [.ad y.1, .ad y.2.2.1], fun y => .tup [.one (.sc 0 0 (accL acc).length y.2.1 false), .one (.sc 1 0 (outL ou).length y.2.2.2 false)], fun y => [.sl 0 ((accL acc).length) y.2.1 [.f 0 ((accL acc)) ((accL acc).length)] 40 32, .sl 1 ((outL ou).length) y.2.2.2 [.f 0 ((outL ou)) ((outL ou).length)] 40 32], fun y => [(accL acc).length ≤ y.2.1, (outL ou).length ≤ y.2.2.2]⟩ : PS FMp)) acc A ou c
def la_rleaves : SgT FMp sg_rleaves → List (Nat × (SS FMp → HA FMp))
  | ((acc, ((A, (ou, c)), ())), ()) => (fun (acc : List (Int × Int × List Int)) (A : Option Addr) (ou : List (Int × Int)) (c : Nat) => ([(3, fun S => ⟨Int × (List (List Int)) × (Option Addr) × Nat, fun y => [.ad y.2.2.1], fun n y => [(6, some (one (.int .i64 (y.1)))), (4, some (.v (.one (.sc n 0 y.2.1.length y.2.2.2 false))))], fun n y => .sl n (y.2.1.length) y.2.2.2 [.f 0 (y.2.1) (y.2.1.length)] 40 32 :: S.m, fun y => [0 ≤ y.1, y.1 ≤ 32, y.2.1 = (accL acc).take y.1.toNat, y.2.1.length ≤ y.2.2.2], fun y => (32 - y.1).toNat⟩), (7, fun S => ⟨Int × (List (List Int)) × (Option Addr) × Nat, fun y => [.ad y.2.2.1], fun n y => [(7, some (one (.int .i64 (y.1)))), (5, some (.v (.one (.sc n 0 y.2.1.length y.2.2.2 false))))], fun n y => .sl n (y.2.1.length) y.2.2.2 [.f 0 (y.2.1) (y.2.1.length)] 40 32 :: S.m, fun y => [0 ≤ y.1, y.1 ≤ ou.length, y.2.1 = (outL ou).take y.1.toNat, y.2.1.length ≤ y.2.2.2], fun y => (ou.length - y.1).toNat⟩)] : List (Nat × (SS FMp → HA FMp)))) acc A ou c
def ca_rleaves : SgT FMp sg_rleaves → List (Nat × (SS FMp → HA FMp))
  | ((acc, ((A, (ou, c)), ())), ()) => (fun (acc : List (Int × Int × List Int)) (A : Option Addr) (ou : List (Int × Int)) (c : Nat) => ([] : List (Nat × (SS FMp → HA FMp)))) acc A ou c
theorem vc_rleaves (acc : List (Int × Int × List Int)) (A : Option Addr) (ou : List (Int × Int)) (c : Nat) : Vc (vc (FM := FMp) Xp 40 [con_raccb, con_rleaf, con_routb] (la_rleaves ((acc, ((A, (ou, c)), ())), ())) (ca_rleaves ((acc, ((A, (ou, c)), ())), ())) [] [] [.tmp 2, .tmp 3] sg_rleaves pr_rleaves ps_rleaves cd_rleaves 300 ((acc, ((A, (ou, c)), ())), ())) := by
  refine ⟨Eq.mpr (β := acc.length = (32 : Nat) → (∀ (a : Int × Int × List Int), List.Mem a acc → a.2.2.length = (32 : Nat)) → (∀ (a : Int × Int), a ∈ ou → True) → (∀ (a : Int × Int × List Int), a ∈ acc → rg a.2.2) → ou.length ≤ (4398046511104 : Nat) → ∀ (b : Nat), (∃ (y : Int × List (List Int) × Option Addr × Nat), (0 : Int) = y.1 ∧ Value.slice none (0 : Nat) (0 : Nat) = Value.slice y.snd.2.1 y.2.1.length y.snd.2.2 ∧ y.snd.2.1 = none ∧ y.2.1.length = (0 : Nat) ∧ y.snd.2.2 = (0 : Nat) ∧ y.2.1 = [] ∧ y.2.1.length = (0 : Nat) ∧ acc = acc ∧ (32 : Nat) = (32 : Nat) ∧ ou.length = ou.length ∧ c = c ∧ (0 : Int) ≤ y.1 ∧ y.1 ≤ (32 : Int) ∧ y.2.1 = List.take y.1.toNat (accL acc) ∧ y.2.1.length ≤ y.snd.2.2) ∧ ∀ (y : Int × List (List Int) × Option Addr × Nat), y.2.1.length = y.2.1.length → (∀ (a : List Int), a ∈ y.2.1 → a.length = (32 : Nat)) → acc.length = (32 : Nat) → (∀ (a : Int × Int × List Int), a ∈ acc → a.2.2.length = (32 : Nat)) → (0 : Int) ≤ y.1 → y.1 ≤ (32 : Int) → y.2.1 = List.take y.1.toNat (accL acc) → y.2.1.length ≤ y.snd.2.2 → (decide (y.1 < (32 : Int)) = true → (0 : Int) ≤ y.1 ∧ y.1 < (32 : Int) ∧ y.1.toNat < (32 : Nat) ∧ ∀ (y_1 : Option Addr × Nat), (a48 (acc.getD y.1.toNat ((0, 0, List.replicate 32 0) : Int × Int × List Int)).1 (acc.getD y.1.toNat ((0, 0, List.replicate 32 0) : Int × Int × List Int)).2.1 (acc.getD y.1.toNat ((0, 0, List.replicate 32 0) : Int × Int × List Int)).2.2).length = (a48 (acc.getD y.1.toNat ((0, 0, List.replicate 32 0) : Int × Int × List Int)).1 (acc.getD y.1.toNat ((0, 0, List.replicate 32 0) : Int × Int × List Int)).2.1 (acc.getD y.1.toNat ((0, 0, List.replicate 32 0) : Int × Int × List Int)).2.2).length → (a48 (acc.getD y.1.toNat ((0, 0, List.replicate 32 0) : Int × Int × List Int)).1 (acc.getD y.1.toNat ((0, 0, List.replicate 32 0) : Int × Int × List Int)).2.1 (acc.getD y.1.toNat ((0, 0, List.replicate 32 0) : Int × Int × List Int)).2.2).length ≤ y_1.2 → (a48 (acc.getD y.1.toNat ((0, 0, List.replicate 32 0) : Int × Int × List Int)).1 (acc.getD y.1.toNat ((0, 0, List.replicate 32 0) : Int × Int × List Int)).2.1 (acc.getD y.1.toNat ((0, 0, List.replicate 32 0) : Int × Int × List Int)).2.2).length = (a48 (acc.getD y.1.toNat ((0, 0, List.replicate 32 0) : Int × Int × List Int)).1 (acc.getD y.1.toNat ((0, 0, List.replicate 32 0) : Int × Int × List Int)).2.1 (acc.getD y.1.toNat ((0, 0, List.replicate 32 0) : Int × Int × List Int)).2.2).length ∧ (a48 (acc.getD y.1.toNat ((0, 0, List.replicate 32 0) : Int × Int × List Int)).1 (acc.getD y.1.toNat ((0, 0, List.replicate 32 0) : Int × Int × List Int)).2.1 (acc.getD y.1.toNat ((0, 0, List.replicate 32 0) : Int × Int × List Int)).2.2).length ≤ (1000000 : Nat) ∧ rg (a48 (acc.getD y.1.toNat ((0, 0, List.replicate 32 0) : Int × Int × List Int)).1 (acc.getD y.1.toNat ((0, 0, List.replicate 32 0) : Int × Int × List Int)).2.1 (acc.getD y.1.toNat ((0, 0, List.replicate 32 0) : Int × Int × List Int)).2.2) ∧ ∀ (y_2 : Unit), (leafF (a48 (acc.getD y.1.toNat ((0, 0, List.replicate 32 0) : Int × Int × List Int)).1 (acc.getD y.1.toNat ((0, 0, List.replicate 32 0) : Int × Int × List Int)).2.1 (acc.getD y.1.toNat ((0, 0, List.replicate 32 0) : Int × Int × List Int)).2.2)).length = (32 : Nat) → (leafF (a48 (acc.getD y.1.toNat ((0, 0, List.replicate 32 0) : Int × Int × List Int)).1 (acc.getD y.1.toNat ((0, 0, List.replicate 32 0) : Int × Int × List Int)).2.1 (acc.getD y.1.toNat ((0, 0, List.replicate 32 0) : Int × Int × List Int)).2.2)).length = (32 : Nat) → ∀ (b : Nat), y.2.1.length = y.2.1.length ∧ y.snd.2.2 = y.snd.2.2 ∧ (1 : Nat) = (1 : Nat) ∧ (y.2.1.length + (1 : Nat)) * Proofs.Try.prog.types[(40 : Nat)].bytes ≤ (140737488355328 : Nat) ∧ ∀ (A : Option Addr) (q : Nat), y.2.1.length + (1 : Nat) ≤ q → (-9223372036854775808 : Int) ≤ y.1 + (1 : Int) ∧ y.1 + (1 : Int) ≤ (9223372036854775807 : Int) ∧ ∃ (y_3 : Int × List (List Int) × Option Addr × Nat), y.1 + (1 : Int) = y_3.1 ∧ A = y_3.snd.2.1 ∧ y.2.1.length + (1 : Nat) = y_3.2.1.length ∧ q = y_3.snd.2.2 ∧ A = y_3.snd.2.1 ∧ y.2.1.length + (1 : Nat) = y_3.2.1.length ∧ q = y_3.snd.2.2 ∧ y.2.1 ++ [leafF (a48 (acc.getD y.1.toNat ((0, 0, List.replicate 32 0) : Int × Int × List Int)).1 (acc.getD y.1.toNat ((0, 0, List.replicate 32 0) : Int × Int × List Int)).2.1 (acc.getD y.1.toNat ((0, 0, List.replicate 32 0) : Int × Int × List Int)).2.2)] = y_3.2.1 ∧ y.2.1.length + (1 : Nat) = y_3.2.1.length ∧ acc = acc ∧ (32 : Nat) = (32 : Nat) ∧ ou.length = ou.length ∧ c = c ∧ (0 : Int) ≤ y_3.1 ∧ y_3.1 ≤ (32 : Int) ∧ y_3.2.1 = List.take y_3.1.toNat (accL acc) ∧ y_3.2.1.length ≤ y_3.snd.2.2 ∧ ((32 : Int) - y_3.1).toNat < ((32 : Int) - y.1).toNat) ∧ (decide (y.1 < (32 : Int)) = false → (∃ (y_1 : Int × List (List Int) × Option Addr × Nat), (0 : Int) = y_1.1 ∧ Value.slice none (0 : Nat) (0 : Nat) = Value.slice y_1.snd.2.1 y_1.2.1.length y_1.snd.2.2 ∧ y_1.snd.2.1 = none ∧ y_1.2.1.length = (0 : Nat) ∧ y_1.snd.2.2 = (0 : Nat) ∧ y_1.2.1 = [] ∧ y_1.2.1.length = (0 : Nat) ∧ y.2.1.length = y.2.1.length ∧ y.snd.2.2 = y.snd.2.2 ∧ y.2.1 = y.2.1 ∧ y.2.1.length = y.2.1.length ∧ acc = acc ∧ (32 : Nat) = (32 : Nat) ∧ ou.length = ou.length ∧ c = c ∧ (0 : Int) ≤ y_1.1 ∧ y_1.1 ≤ (↑ou.length : Int) ∧ y_1.2.1 = List.take y_1.1.toNat (outL ou) ∧ y_1.2.1.length ≤ y_1.snd.2.2) ∧ ∀ (y_1 : Int × List (List Int) × Option Addr × Nat), y_1.2.1.length = y_1.2.1.length → (∀ (a : List Int), a ∈ y_1.2.1 → a.length = (32 : Nat)) → y.2.1.length = y.2.1.length → (∀ (a : List Int), a ∈ y.2.1 → a.length = (32 : Nat)) → acc.length = (32 : Nat) → (∀ (a : Int × Int × List Int), a ∈ acc → a.2.2.length = (32 : Nat)) → (0 : Int) ≤ y_1.1 → y_1.1 ≤ (↑ou.length : Int) → y_1.2.1 = List.take y_1.1.toNat (outL ou) → y_1.2.1.length ≤ y_1.snd.2.2 → (decide (y_1.1 < (↑ou.length : Int)) = true → (0 : Int) ≤ y_1.1 ∧ y_1.1 < (↑ou.length : Int) ∧ y_1.1.toNat < ou.length ∧ y_1.1.toNat < ou.length ∧ ∀ (y_2 : Option Addr × Nat), (e16 (ou.getD y_1.1.toNat ((0, 0) : Int × Int)).1 (ou.getD y_1.1.toNat ((0, 0) : Int × Int)).2).length = (e16 (ou.getD y_1.1.toNat ((0, 0) : Int × Int)).1 (ou.getD y_1.1.toNat ((0, 0) : Int × Int)).2).length → (e16 (ou.getD y_1.1.toNat ((0, 0) : Int × Int)).1 (ou.getD y_1.1.toNat ((0, 0) : Int × Int)).2).length ≤ y_2.2 → (e16 (ou.getD y_1.1.toNat ((0, 0) : Int × Int)).1 (ou.getD y_1.1.toNat ((0, 0) : Int × Int)).2).length = (e16 (ou.getD y_1.1.toNat ((0, 0) : Int × Int)).1 (ou.getD y_1.1.toNat ((0, 0) : Int × Int)).2).length ∧ (e16 (ou.getD y_1.1.toNat ((0, 0) : Int × Int)).1 (ou.getD y_1.1.toNat ((0, 0) : Int × Int)).2).length ≤ (1000000 : Nat) ∧ rg (e16 (ou.getD y_1.1.toNat ((0, 0) : Int × Int)).1 (ou.getD y_1.1.toNat ((0, 0) : Int × Int)).2) ∧ ∀ (y_3 : Unit), (leafF (e16 (ou.getD y_1.1.toNat ((0, 0) : Int × Int)).1 (ou.getD y_1.1.toNat ((0, 0) : Int × Int)).2)).length = (32 : Nat) → (leafF (e16 (ou.getD y_1.1.toNat ((0, 0) : Int × Int)).1 (ou.getD y_1.1.toNat ((0, 0) : Int × Int)).2)).length = (32 : Nat) → ∀ (b : Nat), y_1.2.1.length = y_1.2.1.length ∧ y_1.snd.2.2 = y_1.snd.2.2 ∧ (1 : Nat) = (1 : Nat) ∧ (y_1.2.1.length + (1 : Nat)) * Proofs.Try.prog.types[(40 : Nat)].bytes ≤ (140737488355328 : Nat) ∧ ∀ (A : Option Addr) (q : Nat), y_1.2.1.length + (1 : Nat) ≤ q → (-9223372036854775808 : Int) ≤ y_1.1 + (1 : Int) ∧ y_1.1 + (1 : Int) ≤ (9223372036854775807 : Int) ∧ ∃ (y_4 : Int × List (List Int) × Option Addr × Nat), y_1.1 + (1 : Int) = y_4.1 ∧ A = y_4.snd.2.1 ∧ y_1.2.1.length + (1 : Nat) = y_4.2.1.length ∧ q = y_4.snd.2.2 ∧ A = y_4.snd.2.1 ∧ y_1.2.1.length + (1 : Nat) = y_4.2.1.length ∧ q = y_4.snd.2.2 ∧ y_1.2.1 ++ [leafF (e16 (ou.getD y_1.1.toNat ((0, 0) : Int × Int)).1 (ou.getD y_1.1.toNat ((0, 0) : Int × Int)).2)] = y_4.2.1 ∧ y_1.2.1.length + (1 : Nat) = y_4.2.1.length ∧ y.2.1.length = y.2.1.length ∧ y.snd.2.2 = y.snd.2.2 ∧ y.2.1 = y.2.1 ∧ y.2.1.length = y.2.1.length ∧ acc = acc ∧ (32 : Nat) = (32 : Nat) ∧ ou.length = ou.length ∧ c = c ∧ (0 : Int) ≤ y_4.1 ∧ y_4.1 ≤ (↑ou.length : Int) ∧ y_4.2.1 = List.take y_4.1.toNat (outL ou) ∧ y_4.2.1.length ≤ y_4.snd.2.2 ∧ ((↑ou.length : Int) - y_4.1).toNat < ((↑ou.length : Int) - y_1.1).toNat) ∧ (decide (y_1.1 < (↑ou.length : Int)) = false → ∃ (y_2 : Option Addr × Nat × Option Addr × Nat), y.snd.2.1 = y_2.1 ∧ y.2.1.length = (accL acc).length ∧ y.snd.2.2 = y_2.2.1 ∧ y_1.snd.2.1 = y_2.snd.2.1 ∧ y_1.2.1.length = (outL ou).length ∧ y_1.snd.2.2 = y_2.snd.2.2 ∧ y.snd.2.1 = y_2.1 ∧ y.2.1.length = (accL acc).length ∧ y.snd.2.2 = y_2.2.1 ∧ y.2.1 = accL acc ∧ y.2.1.length = (accL acc).length ∧ y_1.snd.2.1 = y_2.snd.2.1 ∧ y_1.2.1.length = (outL ou).length ∧ y_1.snd.2.2 = y_2.snd.2.2 ∧ y_1.2.1 = outL ou ∧ y_1.2.1.length = (outL ou).length ∧ (accL acc).length ≤ y_2.2.1 ∧ (outL ou).length ≤ y_2.snd.2.2))) (by kernel_rfl) ?_⟩
  simp only [imin, imax, decide_eq_true_eq, decide_eq_false_iff_not, Prod.forall, Prod.exists, exists_eq_left', exists_eq_left, exists_and_left, exists_and_right, exists_eq_right, exists_eq, exists_eq', true_and, and_true, forall_const, exists_const, eq_self, Bool.not_eq_true, Bool.not_eq_eq_eq_not, Bool.not_true, Bool.not_false, Value.slice.injEq, Option.getD_some, imp_self, implies_true, Option.some.injEq, Addr.mk.injEq, true_or, or_true, List.length_cons, List.length_nil, Nat.zero_add, Nat.reduceAdd]
  intro hac hlk hg hou
  refine ⟨⟨[], none, 0, ⟨rfl, rfl, rfl⟩, rfl, rfl, rfl, rfl, rfl, by omega, by omega, by simp, Nat.le_refl _⟩, fun k l q h32 _ _ k0 k1 hl hq => ⟨fun h => ⟨k0, h, by omega, fun b0 hb0 => ?_⟩, fun h => ⟨⟨[], none, 0, ⟨rfl, rfl, rfl⟩, rfl, rfl, rfl, rfl, rfl, by omega, by omega, by simp, Nat.le_refl _⟩, fun z u r u32 _ _ _ z0 z1 hu hr => ⟨fun g => ⟨z0, g, by omega, by omega, fun b0 hb0 => ?_⟩, fun g => ?_⟩⟩⟩⟩
  · have hm : acc.getD k.toNat (0, 0, List.replicate 32 0) ∈ acc := gd_mem (by omega)
    have hlen : (acc.getD k.toNat (0, 0, List.replicate 32 0)).2.2.length = 32 := hlk _ _ _ hm
    have hrg : rg (acc.getD k.toNat (0, 0, List.replicate 32 0)).2.2 := hg _ _ _ hm
    have hll : l.length = k.toNat := by rw [hl, List.length_take, accL_length]; omega
    generalize hx : acc.getD k.toNat (0, 0, List.replicate 32 0) = x at hm hlen hrg
    refine ⟨by simp [a48, ei8_length, hlen], ?_, fun _ _ => ⟨by rw [BYh6]; omega, fun q' hq' => ⟨by omega, by omega, _, ?_, ?_, rfl, ?_, by omega, by omega, ?_, ?_, by omega⟩⟩⟩
    · exact rg_mem fun y hy => by
        simp only [a48, List.mem_append] at hy
        rcases hy with (h | h) | h
        · exact ei8_range _ y h
        · exact ei8_range _ y h
        · exact mem_of_get (p := fun x => 0 ≤ x ∧ x < 256) hrg y h
    · simp
    · simp
    · simp
    · rw [show (k + 1).toNat = k.toNat + 1 by omega, accL, take_snoc (d := (0, 0, List.replicate 32 0)) (by omega), hx, ← accL, ← hl]
    · simpa using hq'
  · have hul : u.length = z.toNat := by rw [hu, List.length_take, outL_length]; omega
    generalize hx : ou.getD z.toNat (0, 0) = x
    refine ⟨by rw [e16_length]; omega, rg_mem (e16_range _ _), fun _ _ => ⟨by rw [BYh6]; omega, fun q' hq' => ⟨by omega, by omega, _, ?_, ?_, rfl, ?_, by omega, by omega, ?_, ?_, by omega⟩⟩⟩
    · simp
    · simp
    · simp
    · rw [show (z + 1).toNat = z.toNat + 1 by omega, outL, take_snoc (d := (0, 0)) (by omega), hx, ← outL, ← hu]
    · simpa using hq'
  · have e1 : l = accL acc := by rw [hl]; exact List.take_of_length_le (by rw [accL_length]; omega)
    have e2 : u = outL ou := by rw [hu]; exact List.take_of_length_le (by rw [outL_length]; omega)
    subst e1 e2
    exact ⟨rfl, rfl, rfl, rfl, rfl, rfl, rfl, rfl, hq, hr⟩
noncomputable def con_rleaves : Con Xp.P FMp := ⟨62, sg_rleaves, pr_rleaves, ps_rleaves, vc_ok (La := la_rleaves) (Ca := ca_rleaves) 300 (fn := Go.Proofs.Try.f62) (by kernel_rfl) (c := cd_rleaves) (by kernel_rfl) (by kernel_rfl) (by kernel_rfl) (by kernel_rfl) (fun ⟨⟨acc, ⟨⟨A, ⟨ou, c⟩⟩, ⟨⟩⟩⟩, ⟨⟩⟩ => vc_rleaves acc A ou c)⟩
noncomputable def cd_rroot6 : Code := (Go.Proofs.Try.f19.body).getD .skip
def sg_rroot6 : List Arg := [.ag [.rcs 1 32, .slr 2]]
def pr_rroot6 : SgT FMp sg_rroot6 → List Prop
  | ((acc, ((A, (ou, c)), ())), ()) => (fun (acc : List (Int × Int × List Int)) (A : Option Addr) (ou : List (Int × Int)) (c : Nat) => ([a64 acc, ∀ a ∈ acc, rg a.2.2] : List Prop)) acc A ou c
def ps_rroot6 : SgT FMp sg_rroot6 → PS FMp
  | ((acc, ((A, (ou, c)), ())), ()) => (fun (acc : List (Int × Int × List Int)) (A : Option Addr) (ou : List (Int × Int)) (c : Nat) => (⟨Unit, fun y => [], fun y => .tup [.ag (zz .u8 (rt6 acc ou) 32), .one (.xv (.int .i64 (rtE6 acc ou)))], fun y => [], fun y => [(rt6 acc ou).length = 32]⟩ : PS FMp)) acc A ou c
def la_rroot6 : SgT FMp sg_rroot6 → List (Nat × (SS FMp → HA FMp))
  | ((acc, ((A, (ou, c)), ())), ()) => (fun (acc : List (Int × Int × List Int)) (A : Option Addr) (ou : List (Int × Int)) (c : Nat) => ([] : List (Nat × (SS FMp → HA FMp)))) acc A ou c
def ca_rroot6 : SgT FMp sg_rroot6 → List (Nat × (SS FMp → HA FMp))
  | ((acc, ((A, (ou, c)), ())), ()) => (fun (acc : List (Int × Int × List Int)) (A : Option Addr) (ou : List (Int × Int)) (c : Nat) => ([] : List (Nat × (SS FMp → HA FMp)))) acc A ou c
theorem vc_rroot6 (acc : List (Int × Int × List Int)) (A : Option Addr) (ou : List (Int × Int)) (c : Nat) : Vc (vc (FM := FMp) Xp 35 [con_rmay6, con_rleaves, con_rroot, con_rjoined] (la_rroot6 ((acc, ((A, (ou, c)), ())), ())) (ca_rroot6 ((acc, ((A, (ou, c)), ())), ())) [] [] [.cell 2 40, .tmp 3] sg_rroot6 pr_rroot6 ps_rroot6 cd_rroot6 300 ((acc, ((A, (ou, c)), ())), ())) := by
  refine ⟨Eq.mpr (β := acc.length = (32 : Nat) → (∀ (a : Int × Int × List Int), List.Mem a acc → a.2.2.length = (32 : Nat)) → (∀ (a : Int × Int), a ∈ ou → True) → a64 acc → (∀ (a : Int × Int × List Int), a ∈ acc → rg a.2.2) → ∀ (b b : Nat), ou.length = ou.length ∧ a64 acc ∧ ∀ (y : Unit), ((!(decide (stE acc = (0 : Int)) && decide (ou.length ≤ (32 : Nat)))) = true → ∃ (y : Unit), List.replicate (32 : Nat) (0 : Int) = rt6 acc ou ∧ (32 : Nat) = (32 : Nat) ∧ (2 : Int) = rtE6 acc ou ∧ (rt6 acc ou).length = (32 : Nat)) ∧ ((!(decide (stE acc = (0 : Int)) && decide (ou.length ≤ (32 : Nat)))) = false → ou.length = ou.length ∧ (∀ (a : Int × Int × List Int), a ∈ acc → rg a.2.2) ∧ ou.length ≤ (4398046511104 : Nat) ∧ ∀ (y : Option Addr × Nat × Option Addr × Nat), (accL acc).length = (accL acc).length → (∀ (a : List Int), a ∈ accL acc → a.length = (32 : Nat)) → (outL ou).length = (outL ou).length → (∀ (a : List Int), a ∈ outL ou → a.length = (32 : Nat)) → (accL acc).length ≤ y.2.1 → (outL ou).length ≤ y.snd.2.2 → (accL acc).length = (accL acc).length ∧ (accL acc).length ≤ y.2.1 ∧ (∀ (a : List Int), a ∈ accL acc → rg a) ∧ ∀ (y_1 : Unit), (rootH (5 : Int) (accL acc)).length = (32 : Nat) → (rootH (5 : Int) (accL acc)).length = (32 : Nat) → ∀ (b : Nat), (outL ou).length = (outL ou).length ∧ (outL ou).length ≤ y.snd.2.2 ∧ (∀ (a : List Int), a ∈ outL ou → rg a) ∧ ∀ (y : Unit), (rootH (5 : Int) (outL ou)).length = (32 : Nat) → (rootH (5 : Int) (outL ou)).length = (32 : Nat) → ∀ (b : Nat), rg (rootH (5 : Int) (accL acc)) ∧ rg (rootH (5 : Int) (outL ou)) ∧ ∀ (y : Unit), (topF (rootH (5 : Int) (accL acc)) (rootH (5 : Int) (outL ou)) (IntKind.u64.wrap (↑(outL ou).length : Int))).length = (32 : Nat) → (topF (rootH (5 : Int) (accL acc)) (rootH (5 : Int) (outL ou)) (IntKind.u64.wrap (↑(outL ou).length : Int))).length = (32 : Nat) → ∃ (y : Unit), topF (rootH (5 : Int) (accL acc)) (rootH (5 : Int) (outL ou)) (IntKind.u64.wrap (↑(outL ou).length : Int)) = rt6 acc ou ∧ (32 : Nat) = (32 : Nat) ∧ (0 : Int) = rtE6 acc ou ∧ (rt6 acc ou).length = (32 : Nat))) (by kernel_rfl) ?_⟩
  simp only [imin, imax, decide_eq_true_eq, decide_eq_false_iff_not, Prod.forall, Prod.exists, exists_eq_left', exists_eq_left, exists_and_left, exists_and_right, exists_eq_right, exists_eq, exists_eq', true_and, and_true, forall_const, exists_const, eq_self, Bool.not_eq_true, Bool.not_eq_eq_eq_not, Bool.not_true, Bool.not_false, Value.slice.injEq, Option.getD_some, imp_self, implies_true, Option.some.injEq, Addr.mk.injEq, true_or, or_true, List.length_cons, List.length_nil, Nat.zero_add, Nat.reduceAdd]
  intro hac hlk ha hg
  refine ⟨ha, fun h => ?_, fun h => ⟨hg, by (simp only [Bool.and_eq_true, decide_eq_true_eq] at h; omega), fun q r _ _ hq hr => ⟨hq, accLg acc, fun _ _ => ⟨hr, outLg ou, fun _ _ => ⟨rg_root _ (accLg acc) (by rw [accL_length, hac]; decide), rg_root _ (outLg ou) ?_, ?_⟩⟩⟩⟩⟩
  · have hn : ¬ st6 acc ou := fun o => by
      unfold st6 at o
      simp [o.1, o.2] at h
    exact ⟨by rw [rt6, if_neg hn], by rw [rtE6, if_neg hn], by rw [rt6, if_neg hn]; simp⟩
  all_goals simp only [Bool.and_eq_true, decide_eq_true_eq] at h
  · rw [outL_length]; exact h.2
  · have hw : IntKind.u64.wrap ((outL ou).length : Int) = (ou.length : Int) := by rw [outL_length, wrap64, Int.emod_eq_of_lt (by omega) (by omega)]
    have hs : st6 acc ou := h
    rw [hw]
    exact fun h _ => ⟨by rw [rt6, if_pos hs], by rw [rtE6, if_pos hs], by rw [rt6, if_pos hs]; exact h⟩
noncomputable def con_rroot6 : Con Xp.P FMp := ⟨19, sg_rroot6, pr_rroot6, ps_rroot6, vc_ok (La := la_rroot6) (Ca := ca_rroot6) 300 (fn := Go.Proofs.Try.f19) (by kernel_rfl) (c := cd_rroot6) (by kernel_rfl) (by kernel_rfl) (by kernel_rfl) (by kernel_rfl) (fun ⟨⟨acc, ⟨⟨A, ⟨ou, c⟩⟩, ⟨⟩⟩⟩, ⟨⟩⟩ => vc_rroot6 acc A ou c)⟩
noncomputable def cd_rproveo : Code := (Go.Proofs.Try.f20.body).getD .skip
def sg_rproveo : List Arg := [.ag [.rcs 1 32, .slr 2], .one (.int .i64)]
def pr_rproveo : SgT FMp sg_rproveo → List Prop
  | ((acc, ((A, (ou, c)), ())), (i, ())) => (fun (acc : List (Int × Int × List Int)) (A : Option Addr) (ou : List (Int × Int)) (c : Nat) (i : Int) => ([a64 acc, ∀ a ∈ acc, rg a.2.2] : List Prop)) acc A ou c i
def ps_rproveo : SgT FMp sg_rproveo → PS FMp
  | ((acc, ((A, (ou, c)), ())), (i, ())) => (fun (acc : List (Int × Int × List Int)) (A : Option Addr) (ou : List (Int × Int)) (c : Nat) (i : Int) => (⟨(Option Addr) × Nat × (List (List Int)) × (List Int) × Int × Int, fun y => [.ad y.1], fun y => .tup [.ag [.b (.cl (.sc 0 0 y.2.2.1.length y.2.1 false)), .b (.iz .u8 y.2.2.2.1 32), .b (.cl (.xv (.int .u64 (y.2.2.2.2.1))))], .one (.xv (.int .i64 y.2.2.2.2.2))], fun y => [.sl 0 (y.2.2.1.length) y.2.1 [.f 0 (y.2.2.1) (y.2.2.1.length)] 40 32], fun y => [poRes acc ou i y.2.2.1 y.2.2.2.1 y.2.2.2.2.1 y.2.2.2.2.2, y.2.2.2.1.length = 32, ∀ a ∈ y.2.2.1, a.length = 32]⟩ : PS FMp)) acc A ou c i
def la_rproveo : SgT FMp sg_rproveo → List (Nat × (SS FMp → HA FMp))
  | ((acc, ((A, (ou, c)), ())), (i, ())) => (fun (acc : List (Int × Int × List Int)) (A : Option Addr) (ou : List (Int × Int)) (c : Nat) (i : Int) => ([] : List (Nat × (SS FMp → HA FMp)))) acc A ou c i
def ca_rproveo : SgT FMp sg_rproveo → List (Nat × (SS FMp → HA FMp))
  | ((acc, ((A, (ou, c)), ())), (i, ())) => (fun (acc : List (Int × Int × List Int)) (A : Option Addr) (ou : List (Int × Int)) (c : Nat) (i : Int) => ([] : List (Nat × (SS FMp → HA FMp)))) acc A ou c i
theorem vc_rproveo (acc : List (Int × Int × List Int)) (A : Option Addr) (ou : List (Int × Int)) (c : Nat) (i : Int) : Vc (vc (FM := FMp) Xp 49 [con_rmay6, con_rleaves, con_rroot, con_rproof] (la_rproveo ((acc, ((A, (ou, c)), ())), (i, ()))) (ca_rproveo ((acc, ((A, (ou, c)), ())), (i, ()))) [] [] [.cell 4 45, .tmp 5] sg_rproveo pr_rproveo ps_rproveo cd_rproveo 300 ((acc, ((A, (ou, c)), ())), (i, ()))) := by
  refine ⟨Eq.mpr (β := acc.length = (32 : Nat) → (∀ (a : Int × Int × List Int), List.Mem a acc → a.2.2.length = (32 : Nat)) → (∀ (a : Int × Int), a ∈ ou → True) → a64 acc → (∀ (a : Int × Int × List Int), a ∈ acc → rg a.2.2) → ∀ (b b : Nat), ou.length = ou.length ∧ a64 acc ∧ ∀ (y : Unit), ((!(decide (stE acc = (0 : Int)) && decide (ou.length ≤ (32 : Nat))) || decide (i < (0 : Int)) || decide ((↑ou.length : Int) ≤ i)) = true → ∃ (y : Option Addr × Nat × List (List Int) × List Int × Int × Int), Value.slice none (0 : Nat) (0 : Nat) = Value.slice y.1 y.snd.2.1.length y.2.1 ∧ List.replicate (32 : Nat) (0 : Int) = y.snd.snd.2.1 ∧ (32 : Nat) = (32 : Nat) ∧ (0 : Int) = y.snd.snd.snd.2.1 ∧ (2 : Int) = y.snd.snd.snd.2.2 ∧ y.1 = none ∧ y.snd.2.1.length = (0 : Nat) ∧ y.2.1 = (0 : Nat) ∧ y.snd.2.1 = [] ∧ y.snd.2.1.length = (0 : Nat) ∧ poRes acc ou i y.snd.2.1 y.snd.snd.2.1 y.snd.snd.snd.2.1 y.snd.snd.snd.2.2 ∧ y.snd.snd.2.1.length = (32 : Nat) ∧ ∀ (a : List Int), a ∈ y.snd.2.1 → a.length = (32 : Nat)) ∧ ((!(decide (stE acc = (0 : Int)) && decide (ou.length ≤ (32 : Nat))) || decide (i < (0 : Int)) || decide ((↑ou.length : Int) ≤ i)) = false → ou.length = ou.length ∧ (∀ (a : Int × Int × List Int), a ∈ acc → rg a.2.2) ∧ ou.length ≤ (4398046511104 : Nat) ∧ ∀ (y : Option Addr × Nat × Option Addr × Nat), (accL acc).length = (accL acc).length → (∀ (a : List Int), a ∈ accL acc → a.length = (32 : Nat)) → (outL ou).length = (outL ou).length → (∀ (a : List Int), a ∈ outL ou → a.length = (32 : Nat)) → (accL acc).length ≤ y.2.1 → (outL ou).length ≤ y.snd.2.2 → (outL ou).length = (outL ou).length ∧ (outL ou).length ≤ y.snd.2.2 ∧ (∀ (a : List Int), a ∈ outL ou → rg a) ∧ ∀ (y_1 : Option Addr × Nat), (prfL (5 : Int) (outL ou) i).length = (prfL (5 : Int) (outL ou) i).length → (∀ (a : List Int), a ∈ prfL (5 : Int) (outL ou) i → a.length = (32 : Nat)) → (prfL (5 : Int) (outL ou) i).length ≤ y_1.2 → (∀ (a : List Int), a ∈ prfL (5 : Int) (outL ou) i → a.length = (32 : Nat)) → (accL acc).length = (accL acc).length ∧ (accL acc).length ≤ y.2.1 ∧ (∀ (a : List Int), a ∈ accL acc → rg a) ∧ ∀ (y : Unit), (rootH (5 : Int) (accL acc)).length = (32 : Nat) → (rootH (5 : Int) (accL acc)).length = (32 : Nat) → ∀ (b : Nat), ∃ (y : Option Addr × Nat × List (List Int) × List Int × Int × Int), y_1.1 = y.1 ∧ (prfL (5 : Int) (outL ou) i).length = y.snd.2.1.length ∧ y_1.2 = y.2.1 ∧ rootH (5 : Int) (accL acc) = y.snd.snd.2.1 ∧ (32 : Nat) = (32 : Nat) ∧ IntKind.u64.wrap (↑(outL ou).length : Int) = y.snd.snd.snd.2.1 ∧ (0 : Int) = y.snd.snd.snd.2.2 ∧ y_1.1 = y.1 ∧ (prfL (5 : Int) (outL ou) i).length = y.snd.2.1.length ∧ y_1.2 = y.2.1 ∧ prfL (5 : Int) (outL ou) i = y.snd.2.1 ∧ (prfL (5 : Int) (outL ou) i).length = y.snd.2.1.length ∧ poRes acc ou i y.snd.2.1 y.snd.snd.2.1 y.snd.snd.snd.2.1 y.snd.snd.snd.2.2 ∧ y.snd.snd.2.1.length = (32 : Nat) ∧ ∀ (a : List Int), a ∈ y.snd.2.1 → a.length = (32 : Nat))) (by kernel_rfl) ?_⟩
  simp only [imin, imax, decide_eq_true_eq, decide_eq_false_iff_not, Prod.forall, Prod.exists, exists_eq_left', exists_eq_left, exists_and_left, exists_and_right, exists_eq_right, exists_eq, exists_eq', true_and, and_true, forall_const, exists_const, eq_self, Bool.not_eq_true, Bool.not_eq_eq_eq_not, Bool.not_true, Bool.not_false, Value.slice.injEq, Option.getD_some, imp_self, implies_true, Option.some.injEq, Addr.mk.injEq, true_or, or_true, List.length_cons, List.length_nil, Nat.zero_add, Nat.reduceAdd]
  intro hac hlk ha hg
  refine ⟨ha, fun h => ?_, fun h => ⟨hg, by (simp only [Bool.or_eq_false_iff, Bool.not_eq_false', Bool.and_eq_true, decide_eq_true_eq, decide_eq_false_iff_not] at h; omega), fun q r _ _ hq hr => ⟨hr, outLg ou, fun z h32 hz _ => ⟨hq, accLg acc, fun hl _ => ⟨z, _, rfl, rfl, rfl, rfl, rfl, rfl, ?_, hl, h32⟩⟩⟩⟩⟩
  · refine ⟨none, 0, [], ⟨rfl, rfl, rfl⟩, rfl, rfl, rfl, rfl, rfl, .inr ⟨fun o => ?_, rfl, rfl, rfl, rfl⟩, by simp, by simp⟩
    obtain ⟨⟨o1, o2⟩, o3, o4⟩ := o
    simp only [o1, o2, decide_true, Bool.and_self, Bool.not_true, Bool.false_or, Bool.or_eq_true, decide_eq_true_eq] at h
    omega
  · simp only [Bool.or_eq_false_iff, Bool.not_eq_false', Bool.and_eq_true, decide_eq_true_eq, decide_eq_false_iff_not] at h
    have hw : IntKind.u64.wrap ((outL ou).length : Int) = (ou.length : Int) := by rw [outL_length, wrap64, Int.emod_eq_of_lt (by omega) (by omega)]
    rw [hw]
    exact .inl ⟨⟨⟨h.1.1.1, h.1.1.2⟩, by omega, by omega⟩, rfl, rfl, rfl, rfl⟩
noncomputable def con_rproveo : Con Xp.P FMp := ⟨20, sg_rproveo, pr_rproveo, ps_rproveo, vc_ok (La := la_rproveo) (Ca := ca_rproveo) 300 (fn := Go.Proofs.Try.f20) (by kernel_rfl) (c := cd_rproveo) (by kernel_rfl) (by kernel_rfl) (by kernel_rfl) (by kernel_rfl) (fun ⟨⟨acc, ⟨⟨A, ⟨ou, c⟩⟩, ⟨⟩⟩⟩, ⟨i, ⟨⟩⟩⟩ => vc_rproveo acc A ou c i)⟩

end Go.Pw
end
section
/-
  Walks by computing. No condition.
-/
set_option linter.all false
set_option maxRecDepth 100000
set_option maxHeartbeats 1000000
namespace Go.Pw
open Go Go.Px Go.RowKit
attribute [local irreducible] shaF

/-- What an account's witness is. -/
def paRes (acc : List (Int × Int × List Int)) (ou : List (Int × Int)) (i : Int) (p : List (List Int)) (oth : List Int) (cnt ee : Int) : Prop :=
  ((st6 acc ou ∧ 0 ≤ i ∧ i < 32) ∧ ee = 0 ∧ p = prfL 5 (accL acc) i ∧ oth = rootH 5 (outL ou) ∧ cnt = ou.length) ∨
  (¬ (st6 acc ou ∧ 0 ≤ i ∧ i < 32) ∧ ee = 2 ∧ p = [] ∧ oth = List.replicate 32 0 ∧ cnt = 0)
def ckA (root : List Int) (i b n : Int) (lk : List Int) (ps : List (List Int)) (oth : List Int) (cnt : Int) : Bool :=
  sfoB i ps cnt && decide (topF (sfoH i (a48 b n lk) ps cnt) oth cnt = root)


theorem ask5_inv {i : Int} {n : Int} (h : askV 5 i n = 0) : 0 ≤ i ∧ i < 32 := by
  have e : (2 : Int) ^ (5 : Int).toNat = 32 := by decide
  unfold askV at h
  rw [e] at h
  split at h
  · rename_i o; exact ⟨o.2.2.1, o.2.2.2⟩
  · cases h
theorem ckA_yes {root : List Int} {i b n : Int} {lk : List Int} {ps : List (List Int)} {oth : List Int} {cnt : Int} (h5 : ps.length = 5) (hc : cnt ≤ 32) (hf : fldE i ps.length = 0) : decide (topF (fldH i (leafF (a48 b n lk)) ps) oth cnt = root) = ckA root i b n lk ps oth cnt := by
  rw [h5] at hf
  unfold ckA sfoB
  rw [sfoH, if_pos ⟨h5, hc⟩, decide_eq_true h5, decide_eq_true hc, decide_eq_true hf]
  simp
noncomputable def cd_saccb : Code := (Go.Proofs.Try.f43.body).getD .skip
def sg_saccb : List Arg := [.ag [.int .u64, .int .u64, .arr .u8 32]]
def pr_saccb : SgT FMp sg_saccb → List Prop
  | ((b, (nn, (lk, ()))), ()) => (fun (b nn : Int) (lk : List Int) => ([] : List Prop)) b nn lk
def ps_saccb : SgT FMp sg_saccb → PS FMp
  | ((b, (nn, (lk, ()))), ()) => (fun (b nn : Int) (lk : List Int) => (⟨(Option Addr) × Nat, fun y => [.ad y.1], fun y => .v (.one (.sc 0 0 ((a48 b nn lk).length) y.2 false)), fun y => [.sl 0 ((a48 b nn lk).length) y.2 (zz .u8 ((a48 b nn lk)) ((a48 b nn lk).length)) 5 1], fun y => [((a48 b nn lk)).length ≤ y.2]⟩ : PS FMp)) b nn lk
def la_saccb : SgT FMp sg_saccb → List (Nat × (SS FMp → HA FMp))
  | ((b, (nn, (lk, ()))), ()) => (fun (b nn : Int) (lk : List Int) => ([(7700002, fun S => ⟨Int × (List Int) × (Option Addr) × Nat, fun y => [.ad y.2.2.1], fun n y => [(0, some (.v (.one (.sc n 0 y.2.1.length y.2.2.2 false)))), (10, some (one (.int .i64 (y.1))))], fun n y => .sl n y.2.1.length y.2.2.2 (zz .u8 y.2.1 y.2.1.length) 5 1 :: S.m, fun y => [0 ≤ y.1, y.1 ≤ 2, y.2.1 = wrR [b, nn] y.1.toNat, y.2.1.length ≤ y.2.2.2], fun y => (2 - y.1).toNat⟩), (7700005, fun S => ⟨Int × Nat × (List Int) × (Option Addr) × Nat, fun y => [.ad y.2.2.2.1], fun n y => [(0, some (.v (.one (.sc n 0 y.2.2.1.length y.2.2.2.2 false)))), (7, some (one (.int .i64 (y.1))))], fun n y => .sl n y.2.2.1.length y.2.2.2.2 (zz .u8 y.2.2.1 y.2.2.1.length) 5 1 :: S.m.tail, fun y => [y.1 = 56 - 8 * (y.2.1 : Int), y.2.1 ≤ 8, y.2.2.1.length ≤ y.2.2.2.2, y.2.2.1 = la_h S ++ itN (e8S (la_i S 6)) y.2.1 []], fun y => 8 - y.2.1⟩)] : List (Nat × (SS FMp → HA FMp)))) b nn lk
def ca_saccb : SgT FMp sg_saccb → List (Nat × (SS FMp → HA FMp))
  | ((b, (nn, (lk, ()))), ()) => (fun (b nn : Int) (lk : List Int) => ([] : List (Nat × (SS FMp → HA FMp)))) b nn lk
theorem vc_saccb (b nn : Int) (lk : List Int) : Vc (vc (FM := FMp) Xp 12 [] (la_saccb ((b, (nn, (lk, ()))), ())) (ca_saccb ((b, (nn, (lk, ()))), ())) [] [76] [.tmp 2] sg_saccb pr_saccb ps_saccb cd_saccb 300 ((b, (nn, (lk, ()))), ())) := by
  refine ⟨Eq.mpr (β := lk.length = (32 : Nat) → ∀ (b_1 b_2 : Nat), (∃ (y : Int × List Int × Option Addr × Nat), Value.slice none (0 : Nat) (0 : Nat) = Value.slice y.snd.2.1 y.2.1.length y.snd.2.2 ∧ (0 : Int) = y.1 ∧ y.snd.2.1 = none ∧ y.2.1.length = (0 : Nat) ∧ y.snd.2.2 = (0 : Nat) ∧ y.2.1 = [] ∧ y.2.1.length = (0 : Nat) ∧ (2 : Nat) = (2 : Nat) ∧ (2 : Nat) = (2 : Nat) ∧ [b, nn] = [b, nn] ∧ [b, nn].length = [b, nn].length ∧ b = b ∧ nn = nn ∧ lk = lk ∧ (32 : Nat) = (32 : Nat) ∧ (0 : Int) ≤ y.1 ∧ y.1 ≤ (2 : Int) ∧ y.2.1 = wrR [b, nn] y.1.toNat ∧ y.2.1.length ≤ y.snd.2.2) ∧ ∀ (y : Int × List Int × Option Addr × Nat), y.2.1.length = y.2.1.length → [b, nn].length = [b, nn].length → lk.length = (32 : Nat) → (0 : Int) ≤ y.1 → y.1 ≤ (2 : Int) → y.2.1 = wrR [b, nn] y.1.toNat → y.2.1.length ≤ y.snd.2.2 → (decide (y.1 < (2 : Int)) = true → (0 : Int) ≤ y.1 ∧ y.1 < (2 : Int) ∧ y.1.toNat < [b, nn].length ∧ (∃ (y_1 : Int × Nat × List Int × Option Addr × Nat), y.snd.2.1 = y_1.snd.snd.2.1 ∧ y.2.1.length = y_1.snd.2.1.length ∧ y.snd.2.2 = y_1.snd.snd.2.2 ∧ (56 : Int) = y_1.1 ∧ y.snd.2.1 = y_1.snd.snd.2.1 ∧ y.2.1.length = y_1.snd.2.1.length ∧ y.snd.2.2 = y_1.snd.snd.2.2 ∧ y.2.1 = y_1.snd.2.1 ∧ y.2.1.length = y_1.snd.2.1.length ∧ (2 : Nat) = (2 : Nat) ∧ (2 : Nat) = (2 : Nat) ∧ [b, nn] = [b, nn] ∧ [b, nn].length = [b, nn].length ∧ b = b ∧ nn = nn ∧ lk = lk ∧ (32 : Nat) = (32 : Nat) ∧ y_1.1 = (56 : Int) - (8 : Int) * (↑y_1.2.1 : Int) ∧ y_1.2.1 ≤ (8 : Nat) ∧ y_1.snd.2.1.length ≤ y_1.snd.snd.2.2 ∧ y_1.snd.2.1 = y.2.1 ++ itN (e8S ([b, nn].getD y.1.toNat (0 : Int))) y_1.2.1 []) ∧ ∀ (y_1 : Int × Nat × List Int × Option Addr × Nat), y_1.snd.2.1.length = y_1.snd.2.1.length → [b, nn].length = [b, nn].length → lk.length = (32 : Nat) → y_1.1 = (56 : Int) - (8 : Int) * (↑y_1.2.1 : Int) → y_1.2.1 ≤ (8 : Nat) → y_1.snd.2.1.length ≤ y_1.snd.snd.2.2 → y_1.snd.2.1 = y.2.1 ++ itN (e8S ([b, nn].getD y.1.toNat (0 : Int))) y_1.2.1 [] → (decide ((0 : Int) ≤ y_1.1) = true → (0 : Int) ≤ y_1.1 ∧ ∀ (b_3 : Nat), y_1.snd.2.1.length = y_1.snd.2.1.length ∧ y_1.snd.snd.2.2 = y_1.snd.snd.2.2 ∧ (1 : Nat) = [IntKind.u8.wrap (shrV IntKind.u64 ([b, nn].getD y.1.toNat (0 : Int)) y_1.1)].length ∧ (y_1.snd.2.1.length + (1 : Nat)) * Proofs.Try.prog.types[(5 : Nat)].bytes ≤ (140737488355328 : Nat) ∧ ∀ (A : Option Addr) (q : Nat), y_1.snd.2.1.length + (1 : Nat) ≤ q → (-9223372036854775808 : Int) ≤ y_1.1 - (8 : Int) ∧ y_1.1 - (8 : Int) ≤ (9223372036854775807 : Int) ∧ ∃ (y_2 : Int × Nat × List Int × Option Addr × Nat), A = y_2.snd.snd.2.1 ∧ y_1.snd.2.1.length + (1 : Nat) = y_2.snd.2.1.length ∧ q = y_2.snd.snd.2.2 ∧ y_1.1 - (8 : Int) = y_2.1 ∧ A = y_2.snd.snd.2.1 ∧ y_1.snd.2.1.length + (1 : Nat) = y_2.snd.2.1.length ∧ q = y_2.snd.snd.2.2 ∧ y_1.snd.2.1 ++ [IntKind.u8.wrap (shrV IntKind.u64 ([b, nn].getD y.1.toNat (0 : Int)) y_1.1)] = y_2.snd.2.1 ∧ y_1.snd.2.1.length + [IntKind.u8.wrap (shrV IntKind.u64 ([b, nn].getD y.1.toNat (0 : Int)) y_1.1)].length = y_2.snd.2.1.length ∧ (2 : Nat) = (2 : Nat) ∧ (2 : Nat) = (2 : Nat) ∧ [b, nn] = [b, nn] ∧ [b, nn].length = [b, nn].length ∧ b = b ∧ nn = nn ∧ lk = lk ∧ (32 : Nat) = (32 : Nat) ∧ y_2.1 = (56 : Int) - (8 : Int) * (↑y_2.2.1 : Int) ∧ y_2.2.1 ≤ (8 : Nat) ∧ y_2.snd.2.1.length ≤ y_2.snd.snd.2.2 ∧ y_2.snd.2.1 = y.2.1 ++ itN (e8S ([b, nn].getD y.1.toNat (0 : Int))) y_2.2.1 [] ∧ (8 : Nat) - y_2.2.1 < (8 : Nat) - y_1.2.1) ∧ (decide ((0 : Int) ≤ y_1.1) = false → (-9223372036854775808 : Int) ≤ y.1 + (1 : Int) ∧ y.1 + (1 : Int) ≤ (9223372036854775807 : Int) ∧ ∃ (y_2 : Int × List Int × Option Addr × Nat), y_1.snd.snd.2.1 = y_2.snd.2.1 ∧ y_1.snd.2.1.length = y_2.2.1.length ∧ y_1.snd.snd.2.2 = y_2.snd.2.2 ∧ y.1 + (1 : Int) = y_2.1 ∧ y_1.snd.snd.2.1 = y_2.snd.2.1 ∧ y_1.snd.2.1.length = y_2.2.1.length ∧ y_1.snd.snd.2.2 = y_2.snd.2.2 ∧ y_1.snd.2.1 = y_2.2.1 ∧ y_1.snd.2.1.length = y_2.2.1.length ∧ (2 : Nat) = (2 : Nat) ∧ (2 : Nat) = (2 : Nat) ∧ [b, nn] = [b, nn] ∧ [b, nn].length = [b, nn].length ∧ b = b ∧ nn = nn ∧ lk = lk ∧ (32 : Nat) = (32 : Nat) ∧ (0 : Int) ≤ y_2.1 ∧ y_2.1 ≤ (2 : Int) ∧ y_2.2.1 = wrR [b, nn] y_2.1.toNat ∧ y_2.2.1.length ≤ y_2.snd.2.2 ∧ ((2 : Int) - y_2.1).toNat < ((2 : Int) - y.1).toNat)) ∧ (decide (y.1 < (2 : Int)) = false → y.2.1.length = y.2.1.length ∧ y.snd.2.2 = y.snd.2.2 ∧ (32 : Nat) = (32 : Nat) ∧ (y.2.1.length + (32 : Nat)) * Proofs.Try.prog.types[(5 : Nat)].bytes ≤ (140737488355328 : Nat) ∧ ∀ (A : Option Addr) (q : Nat), y.2.1.length + (32 : Nat) ≤ q → ∃ (y_1 : Option Addr × Nat), A = y_1.1 ∧ y.2.1.length + (32 : Nat) = (a48 b nn lk).length ∧ q = y_1.2 ∧ A = y_1.1 ∧ y.2.1.length + (32 : Nat) = (a48 b nn lk).length ∧ q = y_1.2 ∧ y.2.1 ++ lk = a48 b nn lk ∧ y.2.1.length + (32 : Nat) = (a48 b nn lk).length ∧ (a48 b nn lk).length ≤ y_1.2)) (by kernel_rfl) ?_⟩
  simp only [imin, imax, decide_eq_true_eq, decide_eq_false_iff_not, Prod.forall, Prod.exists, exists_eq_left', exists_eq_left, exists_and_left, exists_and_right, exists_eq_right, exists_eq, exists_eq', true_and, and_true, forall_const, exists_const, eq_self, Bool.not_eq_true, Bool.not_eq_eq_eq_not, Bool.not_true, Bool.not_false, Value.slice.injEq, Option.getD_some, imp_self, implies_true, Option.some.injEq, Addr.mk.injEq, true_or, or_true, List.length_cons, List.length_nil, Nat.zero_add, Nat.reduceAdd]
  intro hlk
  refine ⟨⟨0, [], none, 0, ⟨rfl, rfl, rfl⟩, rfl, rfl, rfl, rfl, rfl, rfl, by omega, by omega, rfl, Nat.le_refl _⟩, fun k v r _ k0 k1 hv hr => ⟨fun h => ⟨k0, h, by omega, ?_, fun i j u q _ hi hj hq hu => ⟨fun g => ?_, fun g => ?_⟩⟩, fun h => ?_⟩⟩
  · exact ⟨56, 0, v, rfl, rfl, rfl, rfl, rfl, rfl, by omega, hr, by simp [itN]⟩
  · have hul : u.length = 8 * k.toNat + j := by rw [hu, List.length_append, hv, wrR_length, itN_e8]
    refine ⟨g, by rw [BY1]; omega, fun q' hq' => ⟨by omega, by omega, i - 8, j + 1, u ++ [IntKind.u8.wrap (shrV .u64 ([b, nn].getD k.toNat 0) i)], by simp, rfl, by simp, rfl, by simp, by omega, by omega, by simpa using hq', ?_, by omega⟩⟩
    rw [itN, e8S, ← List.append_assoc, ← hu, show 8 * (7 - (j : Int)) = i by omega]
  · have hj8 : j = 8 := by omega
    subst hj8
    refine ⟨by omega, by omega, k + 1, u, rfl, rfl, rfl, rfl, rfl, by omega, by omega, ?_, hq, by omega⟩
    rw [show (k + 1).toNat = k.toNat + 1 by omega, hu, hv]
    rfl
  · have hk : k.toNat = 2 := by omega
    rw [hk, wrR2] at hv
    subst hv
    have hl := e16_length b nn
    have el : (a48 b nn lk).length = (e16 b nn).length + 32 := by simp [a48, e16, hlk]; omega
    exact ⟨by rw [BY1]; omega, fun q hq => ⟨el.symm, el.symm, rfl, el.symm, by omega⟩⟩
noncomputable def con_saccb : Con Xp.P FMp := ⟨43, sg_saccb, pr_saccb, ps_saccb, vc_ok (La := la_saccb) (Ca := ca_saccb) 300 (fn := Go.Proofs.Try.f43) (by kernel_rfl) (c := cd_saccb) (by kernel_rfl) (by kernel_rfl) (by kernel_rfl) (by kernel_rfl) (fun ⟨⟨b, ⟨nn, ⟨lk, ⟨⟩⟩⟩⟩, ⟨⟩⟩ => vc_saccb b nn lk)⟩
noncomputable def cd_strees : Code := (Go.Proofs.Try.f74.body).getD .skip
def sg_strees : List Arg := [.ag [.rcs 1 32, .slr 2]]
def pr_strees : SgT FMp sg_strees → List Prop
  | ((acc, ((A, (ou, c)), ())), ()) => (fun (acc : List (Int × Int × List Int)) (A : Option Addr) (ou : List (Int × Int)) (c : Nat) => ([ou.length ≤ 4398046511103] : List Prop)) acc A ou c
def ps_strees : SgT FMp sg_strees → PS FMp
  | ((acc, ((A, (ou, c)), ())), ()) => (fun (acc : List (Int × Int × List Int)) (A : Option Addr) (ou : List (Int × Int)) (c : Nat) => (⟨(Option Addr) × Nat × (Option Addr) × Nat, fun y => [.ad y.1, .ad y.2.2.1], fun y => .tup [.one (.sc 0 0 (accL acc).length y.2.1 false), .one (.sc 1 0 (outL ou).length y.2.2.2 false)], fun y => [.sl 0 ((accL acc).length) y.2.1 [.f 0 ((accL acc)) ((accL acc).length)] 40 32, .sl 1 ((outL ou).length) y.2.2.2 [.f 0 ((outL ou)) ((outL ou).length)] 40 32], fun y => [(accL acc).length ≤ y.2.1, (outL ou).length ≤ y.2.2.2]⟩ : PS FMp)) acc A ou c
def la_strees : SgT FMp sg_strees → List (Nat × (SS FMp → HA FMp))
  | ((acc, ((A, (ou, c)), ())), ()) => (fun (acc : List (Int × Int × List Int)) (A : Option Addr) (ou : List (Int × Int)) (c : Nat) => ([(10100003, fun S => ⟨Int × (List (List Int)) × (Option Addr) × Nat, fun y => [.ad y.2.2.1], fun n y => [(10, some (one (.int .i64 (y.1)))), (5, some (.v (.one (.sc n 0 y.2.1.length y.2.2.2 false))))], fun n y => .sl n (y.2.1.length) y.2.2.2 [.f 0 (y.2.1) (y.2.1.length)] 40 32 :: S.m, fun y => [0 ≤ y.1, y.1 ≤ 32, y.2.1 = (accL acc).take y.1.toNat, y.2.1.length ≤ y.2.2.2], fun y => (32 - y.1).toNat⟩), (10200003, fun S => ⟨Int × (List (List Int)) × (Option Addr) × Nat, fun y => [.ad y.2.2.1], fun n y => [(10, some (one (.int .i64 (y.1)))), (5, some (.v (.one (.sc n 0 y.2.1.length y.2.2.2 false))))], fun n y => .sl n (y.2.1.length) y.2.2.2 [.f 0 (y.2.1) (y.2.1.length)] 40 32 :: S.m, fun y => [0 ≤ y.1, y.1 ≤ ou.length, y.2.1 = (outL ou).take y.1.toNat, y.2.1.length ≤ y.2.2.2], fun y => (ou.length - y.1).toNat⟩)] : List (Nat × (SS FMp → HA FMp)))) acc A ou c
def ca_strees : SgT FMp sg_strees → List (Nat × (SS FMp → HA FMp))
  | ((acc, ((A, (ou, c)), ())), ()) => (fun (acc : List (Int × Int × List Int)) (A : Option Addr) (ou : List (Int × Int)) (c : Nat) => ([] : List (Nat × (SS FMp → HA FMp)))) acc A ou c
theorem vc_strees (acc : List (Int × Int × List Int)) (A : Option Addr) (ou : List (Int × Int)) (c : Nat) : Vc (vc (FM := FMp) Xp 10 [con_saccb, con_soutb, con_leaf] (la_strees ((acc, ((A, (ou, c)), ())), ())) (ca_strees ((acc, ((A, (ou, c)), ())), ())) [] [100, 101] [.tmp 2, .tmp 3] sg_strees pr_strees ps_strees cd_strees 300 ((acc, ((A, (ou, c)), ())), ())) := by
  refine ⟨Eq.mpr (β := acc.length = (32 : Nat) → (∀ (a : Int × Int × List Int), List.Mem a acc → a.2.2.length = (32 : Nat)) → (∀ (a : Int × Int), a ∈ ou → True) → ou.length ≤ (4398046511103 : Nat) → ∀ (b : Nat), (fun (p : Prop) => p ∧ p) ((∃ (y : Int × List (List Int) × Option Addr × Nat), (0 : Int) = y.1 ∧ Value.slice none (0 : Nat) (0 : Nat) = Value.slice y.snd.2.1 y.2.1.length y.snd.2.2 ∧ y.snd.2.1 = none ∧ y.2.1.length = (0 : Nat) ∧ y.snd.2.2 = (0 : Nat) ∧ y.2.1 = [] ∧ y.2.1.length = (0 : Nat) ∧ acc = acc ∧ (32 : Nat) = (32 : Nat) ∧ ou.length = ou.length ∧ c = c ∧ (0 : Int) ≤ y.1 ∧ y.1 ≤ (32 : Int) ∧ y.2.1 = List.take y.1.toNat (accL acc) ∧ y.2.1.length ≤ y.snd.2.2) ∧ ∀ (y : Int × List (List Int) × Option Addr × Nat), y.2.1.length = y.2.1.length → (∀ (a : List Int), a ∈ y.2.1 → a.length = (32 : Nat)) → acc.length = (32 : Nat) → (∀ (a : Int × Int × List Int), a ∈ acc → a.2.2.length = (32 : Nat)) → (0 : Int) ≤ y.1 → y.1 ≤ (32 : Int) → y.2.1 = List.take y.1.toNat (accL acc) → y.2.1.length ≤ y.snd.2.2 → (decide (y.1 < (32 : Int)) = true → (0 : Int) ≤ y.1 ∧ y.1 < (32 : Int) ∧ y.1.toNat < (32 : Nat) ∧ ∀ (b : Nat) (y_1 : Option Addr × Nat), (a48 (acc.getD y.1.toNat ((0, 0, List.replicate 32 0) : Int × Int × List Int)).1 (acc.getD y.1.toNat ((0, 0, List.replicate 32 0) : Int × Int × List Int)).2.1 (acc.getD y.1.toNat ((0, 0, List.replicate 32 0) : Int × Int × List Int)).2.2).length = (a48 (acc.getD y.1.toNat ((0, 0, List.replicate 32 0) : Int × Int × List Int)).1 (acc.getD y.1.toNat ((0, 0, List.replicate 32 0) : Int × Int × List Int)).2.1 (acc.getD y.1.toNat ((0, 0, List.replicate 32 0) : Int × Int × List Int)).2.2).length → (a48 (acc.getD y.1.toNat ((0, 0, List.replicate 32 0) : Int × Int × List Int)).1 (acc.getD y.1.toNat ((0, 0, List.replicate 32 0) : Int × Int × List Int)).2.1 (acc.getD y.1.toNat ((0, 0, List.replicate 32 0) : Int × Int × List Int)).2.2).length ≤ y_1.2 → (a48 (acc.getD y.1.toNat ((0, 0, List.replicate 32 0) : Int × Int × List Int)).1 (acc.getD y.1.toNat ((0, 0, List.replicate 32 0) : Int × Int × List Int)).2.1 (acc.getD y.1.toNat ((0, 0, List.replicate 32 0) : Int × Int × List Int)).2.2).length = (a48 (acc.getD y.1.toNat ((0, 0, List.replicate 32 0) : Int × Int × List Int)).1 (acc.getD y.1.toNat ((0, 0, List.replicate 32 0) : Int × Int × List Int)).2.1 (acc.getD y.1.toNat ((0, 0, List.replicate 32 0) : Int × Int × List Int)).2.2).length ∧ (a48 (acc.getD y.1.toNat ((0, 0, List.replicate 32 0) : Int × Int × List Int)).1 (acc.getD y.1.toNat ((0, 0, List.replicate 32 0) : Int × Int × List Int)).2.1 (acc.getD y.1.toNat ((0, 0, List.replicate 32 0) : Int × Int × List Int)).2.2).length ≤ (1000000 : Nat) ∧ ∀ (y_2 : Unit), (leafF (a48 (acc.getD y.1.toNat ((0, 0, List.replicate 32 0) : Int × Int × List Int)).1 (acc.getD y.1.toNat ((0, 0, List.replicate 32 0) : Int × Int × List Int)).2.1 (acc.getD y.1.toNat ((0, 0, List.replicate 32 0) : Int × Int × List Int)).2.2)).length = (32 : Nat) → (leafF (a48 (acc.getD y.1.toNat ((0, 0, List.replicate 32 0) : Int × Int × List Int)).1 (acc.getD y.1.toNat ((0, 0, List.replicate 32 0) : Int × Int × List Int)).2.1 (acc.getD y.1.toNat ((0, 0, List.replicate 32 0) : Int × Int × List Int)).2.2)).length = (32 : Nat) → ∀ (b : Nat), y.2.1.length = y.2.1.length ∧ y.snd.2.2 = y.snd.2.2 ∧ (1 : Nat) = (1 : Nat) ∧ (y.2.1.length + (1 : Nat)) * Proofs.Try.prog.types[(40 : Nat)].bytes ≤ (140737488355328 : Nat) ∧ ∀ (A : Option Addr) (q : Nat), y.2.1.length + (1 : Nat) ≤ q → (-9223372036854775808 : Int) ≤ y.1 + (1 : Int) ∧ y.1 + (1 : Int) ≤ (9223372036854775807 : Int) ∧ ∃ (y_3 : Int × List (List Int) × Option Addr × Nat), y.1 + (1 : Int) = y_3.1 ∧ A = y_3.snd.2.1 ∧ y.2.1.length + (1 : Nat) = y_3.2.1.length ∧ q = y_3.snd.2.2 ∧ A = y_3.snd.2.1 ∧ y.2.1.length + (1 : Nat) = y_3.2.1.length ∧ q = y_3.snd.2.2 ∧ y.2.1 ++ [leafF (a48 (acc.getD y.1.toNat ((0, 0, List.replicate 32 0) : Int × Int × List Int)).1 (acc.getD y.1.toNat ((0, 0, List.replicate 32 0) : Int × Int × List Int)).2.1 (acc.getD y.1.toNat ((0, 0, List.replicate 32 0) : Int × Int × List Int)).2.2)] = y_3.2.1 ∧ y.2.1.length + (1 : Nat) = y_3.2.1.length ∧ acc = acc ∧ (32 : Nat) = (32 : Nat) ∧ ou.length = ou.length ∧ c = c ∧ (0 : Int) ≤ y_3.1 ∧ y_3.1 ≤ (32 : Int) ∧ y_3.2.1 = List.take y_3.1.toNat (accL acc) ∧ y_3.2.1.length ≤ y_3.snd.2.2 ∧ ((32 : Int) - y_3.1).toNat < ((32 : Int) - y.1).toNat) ∧ (decide (y.1 < (32 : Int)) = false → (∃ (y_1 : Int × List (List Int) × Option Addr × Nat), (0 : Int) = y_1.1 ∧ Value.slice none (0 : Nat) (0 : Nat) = Value.slice y_1.snd.2.1 y_1.2.1.length y_1.snd.2.2 ∧ y_1.snd.2.1 = none ∧ y_1.2.1.length = (0 : Nat) ∧ y_1.snd.2.2 = (0 : Nat) ∧ y_1.2.1 = [] ∧ y_1.2.1.length = (0 : Nat) ∧ y.2.1.length = y.2.1.length ∧ y.snd.2.2 = y.snd.2.2 ∧ y.2.1 = y.2.1 ∧ y.2.1.length = y.2.1.length ∧ acc = acc ∧ (32 : Nat) = (32 : Nat) ∧ ou.length = ou.length ∧ c = c ∧ (0 : Int) ≤ y_1.1 ∧ y_1.1 ≤ (↑ou.length : Int) ∧ y_1.2.1 = List.take y_1.1.toNat (outL ou) ∧ y_1.2.1.length ≤ y_1.snd.2.2) ∧ ∀ (y_1 : Int × List (List Int) × Option Addr × Nat), y_1.2.1.length = y_1.2.1.length → (∀ (a : List Int), a ∈ y_1.2.1 → a.length = (32 : Nat)) → y.2.1.length = y.2.1.length → (∀ (a : List Int), a ∈ y.2.1 → a.length = (32 : Nat)) → acc.length = (32 : Nat) → (∀ (a : Int × Int × List Int), a ∈ acc → a.2.2.length = (32 : Nat)) → (0 : Int) ≤ y_1.1 → y_1.1 ≤ (↑ou.length : Int) → y_1.2.1 = List.take y_1.1.toNat (outL ou) → y_1.2.1.length ≤ y_1.snd.2.2 → (decide (y_1.1 < (↑ou.length : Int)) = true → (0 : Int) ≤ y_1.1 ∧ y_1.1 < (↑ou.length : Int) ∧ y_1.1.toNat < ou.length ∧ y_1.1.toNat < ou.length ∧ ∀ (b : Nat) (y_2 : Option Addr × Nat), (e16 (ou.getD y_1.1.toNat ((0, 0) : Int × Int)).1 (ou.getD y_1.1.toNat ((0, 0) : Int × Int)).2).length = (e16 (ou.getD y_1.1.toNat ((0, 0) : Int × Int)).1 (ou.getD y_1.1.toNat ((0, 0) : Int × Int)).2).length → (e16 (ou.getD y_1.1.toNat ((0, 0) : Int × Int)).1 (ou.getD y_1.1.toNat ((0, 0) : Int × Int)).2).length ≤ y_2.2 → (e16 (ou.getD y_1.1.toNat ((0, 0) : Int × Int)).1 (ou.getD y_1.1.toNat ((0, 0) : Int × Int)).2).length = (e16 (ou.getD y_1.1.toNat ((0, 0) : Int × Int)).1 (ou.getD y_1.1.toNat ((0, 0) : Int × Int)).2).length ∧ (e16 (ou.getD y_1.1.toNat ((0, 0) : Int × Int)).1 (ou.getD y_1.1.toNat ((0, 0) : Int × Int)).2).length ≤ (1000000 : Nat) ∧ ∀ (y_3 : Unit), (leafF (e16 (ou.getD y_1.1.toNat ((0, 0) : Int × Int)).1 (ou.getD y_1.1.toNat ((0, 0) : Int × Int)).2)).length = (32 : Nat) → (leafF (e16 (ou.getD y_1.1.toNat ((0, 0) : Int × Int)).1 (ou.getD y_1.1.toNat ((0, 0) : Int × Int)).2)).length = (32 : Nat) → ∀ (b : Nat), y_1.2.1.length = y_1.2.1.length ∧ y_1.snd.2.2 = y_1.snd.2.2 ∧ (1 : Nat) = (1 : Nat) ∧ (y_1.2.1.length + (1 : Nat)) * Proofs.Try.prog.types[(40 : Nat)].bytes ≤ (140737488355328 : Nat) ∧ ∀ (A : Option Addr) (q : Nat), y_1.2.1.length + (1 : Nat) ≤ q → (-9223372036854775808 : Int) ≤ y_1.1 + (1 : Int) ∧ y_1.1 + (1 : Int) ≤ (9223372036854775807 : Int) ∧ ∃ (y_4 : Int × List (List Int) × Option Addr × Nat), y_1.1 + (1 : Int) = y_4.1 ∧ A = y_4.snd.2.1 ∧ y_1.2.1.length + (1 : Nat) = y_4.2.1.length ∧ q = y_4.snd.2.2 ∧ A = y_4.snd.2.1 ∧ y_1.2.1.length + (1 : Nat) = y_4.2.1.length ∧ q = y_4.snd.2.2 ∧ y_1.2.1 ++ [leafF (e16 (ou.getD y_1.1.toNat ((0, 0) : Int × Int)).1 (ou.getD y_1.1.toNat ((0, 0) : Int × Int)).2)] = y_4.2.1 ∧ y_1.2.1.length + (1 : Nat) = y_4.2.1.length ∧ y.2.1.length = y.2.1.length ∧ y.snd.2.2 = y.snd.2.2 ∧ y.2.1 = y.2.1 ∧ y.2.1.length = y.2.1.length ∧ acc = acc ∧ (32 : Nat) = (32 : Nat) ∧ ou.length = ou.length ∧ c = c ∧ (0 : Int) ≤ y_4.1 ∧ y_4.1 ≤ (↑ou.length : Int) ∧ y_4.2.1 = List.take y_4.1.toNat (outL ou) ∧ y_4.2.1.length ≤ y_4.snd.2.2 ∧ ((↑ou.length : Int) - y_4.1).toNat < ((↑ou.length : Int) - y_1.1).toNat) ∧ (decide (y_1.1 < (↑ou.length : Int)) = false → ∃ (y_2 : Option Addr × Nat × Option Addr × Nat), y.snd.2.1 = y_2.1 ∧ y.2.1.length = (accL acc).length ∧ y.snd.2.2 = y_2.2.1 ∧ y_1.snd.2.1 = y_2.snd.2.1 ∧ y_1.2.1.length = (outL ou).length ∧ y_1.snd.2.2 = y_2.snd.2.2 ∧ y.snd.2.1 = y_2.1 ∧ y.2.1.length = (accL acc).length ∧ y.snd.2.2 = y_2.2.1 ∧ y.2.1 = accL acc ∧ y.2.1.length = (accL acc).length ∧ y_1.snd.2.1 = y_2.snd.2.1 ∧ y_1.2.1.length = (outL ou).length ∧ y_1.snd.2.2 = y_2.snd.2.2 ∧ y_1.2.1 = outL ou ∧ y_1.2.1.length = (outL ou).length ∧ (accL acc).length ≤ y_2.2.1 ∧ (outL ou).length ≤ y_2.snd.2.2)))) (by kernel_rfl) ?_⟩
  simp only [imin, imax, decide_eq_true_eq, decide_eq_false_iff_not, Prod.forall, Prod.exists, exists_eq_left', exists_eq_left, exists_and_left, exists_and_right, exists_eq_right, exists_eq, exists_eq', true_and, and_true, forall_const, exists_const, eq_self, Bool.not_eq_true, Bool.not_eq_eq_eq_not, Bool.not_true, Bool.not_false, Value.slice.injEq, Option.getD_some, imp_self, implies_true, Option.some.injEq, Addr.mk.injEq, true_or, or_true, List.length_cons, List.length_nil, Nat.zero_add, Nat.reduceAdd]
  intro hac hlk hou
  simp only [and_self]
  refine ⟨⟨[], none, 0, ⟨rfl, rfl, rfl⟩, rfl, rfl, rfl, rfl, rfl, by omega, by omega, by simp, Nat.le_refl _⟩, fun k l q h32 _ _ k0 k1 hl hq => ⟨fun h => ⟨k0, h, by omega, fun b0 hb0 => ?_⟩, fun h => ⟨⟨[], none, 0, ⟨rfl, rfl, rfl⟩, rfl, rfl, rfl, rfl, rfl, by omega, by omega, by simp, Nat.le_refl _⟩, fun z u r u32 _ _ _ z0 z1 hu hr => ⟨fun g => ⟨z0, g, by omega, by omega, fun b0 hb0 => ?_⟩, fun g => ?_⟩⟩⟩⟩
  · have hm : acc.getD k.toNat (0, 0, List.replicate 32 0) ∈ acc := gd_mem (by omega)
    have hlen : (acc.getD k.toNat (0, 0, List.replicate 32 0)).2.2.length = 32 := hlk _ _ _ hm
    have hll : l.length = k.toNat := by rw [hl, List.length_take, accL_length]; omega
    generalize hx : acc.getD k.toNat (0, 0, List.replicate 32 0) = x at hm hlen
    refine ⟨by simp [a48, ei8_length, hlen], fun _ _ => ⟨by rw [BYh6]; omega, fun q' hq' => ⟨by omega, by omega, _, ?_, ?_, rfl, ?_, by omega, by omega, ?_, ?_, by omega⟩⟩⟩
    · simp
    · simp
    · simp
    · rw [show (k + 1).toNat = k.toNat + 1 by omega, accL, take_snoc (d := (0, 0, List.replicate 32 0)) (by omega), hx, ← accL, ← hl]
    · simpa using hq'
  · have hul : u.length = z.toNat := by rw [hu, List.length_take, outL_length]; omega
    generalize hx : ou.getD z.toNat (0, 0) = x
    refine ⟨by rw [e16_length]; omega, fun _ _ => ⟨by rw [BYh6]; omega, fun q' hq' => ⟨by omega, by omega, _, ?_, ?_, rfl, ?_, by omega, by omega, ?_, ?_, by omega⟩⟩⟩
    · simp
    · simp
    · simp
    · rw [show (z + 1).toNat = z.toNat + 1 by omega, outL, take_snoc (d := (0, 0)) (by omega), hx, ← outL, ← hu]
    · simpa using hq'
  · have e1 : l = accL acc := by rw [hl]; exact List.take_of_length_le (by rw [accL_length]; omega)
    have e2 : u = outL ou := by rw [hu]; exact List.take_of_length_le (by rw [outL_length]; omega)
    subst e1 e2
    exact ⟨rfl, rfl, rfl, rfl, rfl, rfl, rfl, rfl, hq, hr⟩
noncomputable def con_strees : Con Xp.P FMp := ⟨74, sg_strees, pr_strees, ps_strees, vc_ok (La := la_strees) (Ca := ca_strees) 300 (fn := Go.Proofs.Try.f74) (by kernel_rfl) (c := cd_strees) (by kernel_rfl) (by kernel_rfl) (by kernel_rfl) (by kernel_rfl) (fun ⟨⟨acc, ⟨⟨A, ⟨ou, c⟩⟩, ⟨⟩⟩⟩, ⟨⟩⟩ => vc_strees acc A ou c)⟩
noncomputable def cd_sroots : Code := (Go.Proofs.Try.f68.body).getD .skip
def sg_sroots : List Arg := [.ag [.rcs 1 32, .slr 2]]
def pr_sroots : SgT FMp sg_sroots → List Prop
  | ((acc, ((A, (ou, c)), ())), ()) => (fun (acc : List (Int × Int × List Int)) (A : Option Addr) (ou : List (Int × Int)) (c : Nat) => ([ou.length ≤ 32] : List Prop)) acc A ou c
def ps_sroots : SgT FMp sg_sroots → PS FMp
  | ((acc, ((A, (ou, c)), ())), ()) => (fun (acc : List (Int × Int × List Int)) (A : Option Addr) (ou : List (Int × Int)) (c : Nat) => (⟨Unit, fun y => [], fun y => .tup [.ag (zz .u8 (rootH 5 (accL acc)) 32), .ag (zz .u8 (rootH 5 (outL ou)) 32), .one (.xv (.int .i64 0))], fun y => [], fun y => [(rootH 5 (accL acc)).length = 32, (rootH 5 (outL ou)).length = 32]⟩ : PS FMp)) acc A ou c
def la_sroots : SgT FMp sg_sroots → List (Nat × (SS FMp → HA FMp))
  | ((acc, ((A, (ou, c)), ())), ()) => (fun (acc : List (Int × Int × List Int)) (A : Option Addr) (ou : List (Int × Int)) (c : Nat) => ([] : List (Nat × (SS FMp → HA FMp)))) acc A ou c
def ca_sroots : SgT FMp sg_sroots → List (Nat × (SS FMp → HA FMp))
  | ((acc, ((A, (ou, c)), ())), ()) => (fun (acc : List (Int × Int × List Int)) (A : Option Addr) (ou : List (Int × Int)) (c : Nat) => ([] : List (Nat × (SS FMp → HA FMp)))) acc A ou c
theorem vc_sroots (acc : List (Int × Int × List Int)) (A : Option Addr) (ou : List (Int × Int)) (c : Nat) : Vc (vc (FM := FMp) Xp 30 [con_strees, con_mroot] (la_sroots ((acc, ((A, (ou, c)), ())), ())) (ca_sroots ((acc, ((A, (ou, c)), ())), ())) [] [] [.cell 2 40, .cell 3 40, .tmp 4] sg_sroots pr_sroots ps_sroots cd_sroots 300 ((acc, ((A, (ou, c)), ())), ())) := by
  refine ⟨Eq.mpr (β := acc.length = (32 : Nat) → (∀ (a : Int × Int × List Int), List.Mem a acc → a.2.2.length = (32 : Nat)) → (∀ (a : Int × Int), a ∈ ou → True) → ou.length ≤ (32 : Nat) → ∀ (b b b : Nat), ou.length = ou.length ∧ ou.length ≤ (4398046511103 : Nat) ∧ ∀ (y : Option Addr × Nat × Option Addr × Nat), (accL acc).length = (accL acc).length → (∀ (a : List Int), a ∈ accL acc → a.length = (32 : Nat)) → (outL ou).length = (outL ou).length → (∀ (a : List Int), a ∈ outL ou → a.length = (32 : Nat)) → (accL acc).length ≤ y.2.1 → (outL ou).length ≤ y.snd.2.2 → (accL acc).length = (accL acc).length ∧ ∀ (y : Unit), (rootH (5 : Int) (accL acc)).length = (32 : Nat) → (rootH (5 : Int) (accL acc)).length = (32 : Nat) → ((!decide (askV (5 : Int) (0 : Int) (↑(accL acc).length : Int) = (0 : Int))) = true → (fun (p : Prop) => (p ∧ p) ∧ p) (∃ (y : Unit), rootH (5 : Int) (accL acc) = rootH (5 : Int) (accL acc) ∧ (32 : Nat) = (32 : Nat) ∧ List.replicate (32 : Nat) (0 : Int) = rootH (5 : Int) (outL ou) ∧ (32 : Nat) = (32 : Nat) ∧ askV (5 : Int) (0 : Int) (↑(accL acc).length : Int) = (0 : Int) ∧ (rootH (5 : Int) (accL acc)).length = (32 : Nat) ∧ (rootH (5 : Int) (outL ou)).length = (32 : Nat))) ∧ ((!decide (askV (5 : Int) (0 : Int) (↑(accL acc).length : Int) = (0 : Int))) = false → (outL ou).length = (outL ou).length ∧ ∀ (y : Unit), (rootH (5 : Int) (outL ou)).length = (32 : Nat) → (rootH (5 : Int) (outL ou)).length = (32 : Nat) → (fun (p : Prop) => (p ∧ p) ∧ p) (∃ (y : Unit), rootH (5 : Int) (accL acc) = rootH (5 : Int) (accL acc) ∧ (32 : Nat) = (32 : Nat) ∧ rootH (5 : Int) (outL ou) = rootH (5 : Int) (outL ou) ∧ (32 : Nat) = (32 : Nat) ∧ askV (5 : Int) (0 : Int) (↑(outL ou).length : Int) = (0 : Int) ∧ (rootH (5 : Int) (accL acc)).length = (32 : Nat) ∧ (rootH (5 : Int) (outL ou)).length = (32 : Nat)))) (by kernel_rfl) ?_⟩
  simp only [imin, imax, decide_eq_true_eq, decide_eq_false_iff_not, Prod.forall, Prod.exists, exists_eq_left', exists_eq_left, exists_and_left, exists_and_right, exists_eq_right, exists_eq, exists_eq', true_and, and_true, forall_const, exists_const, eq_self, Bool.not_eq_true, Bool.not_eq_eq_eq_not, Bool.not_true, Bool.not_false, Value.slice.injEq, Option.getD_some, imp_self, implies_true, Option.some.injEq, Addr.mk.injEq, true_or, or_true, List.length_cons, List.length_nil, Nat.zero_add, Nat.reduceAdd]
  intro hac hlk hou
  simp only [and_self]
  have a1 : askV 5 0 ((accL acc).length : Int) = 0 := ask5 (by omega) (by omega) (by rw [accL_length, hac]; decide)
  have a2 : askV 5 0 ((outL ou).length : Int) = 0 := ask5 (by omega) (by omega) (by rw [outL_length]; exact hou)
  exact ⟨by omega, fun q r _ _ hq hr h1 _ => ⟨fun h => absurd a1 h, fun _ h2 _ => ⟨a2, h1, h2⟩⟩⟩
noncomputable def con_sroots : Con Xp.P FMp := ⟨68, sg_sroots, pr_sroots, ps_sroots, vc_ok (La := la_sroots) (Ca := ca_sroots) 300 (fn := Go.Proofs.Try.f68) (by kernel_rfl) (c := cd_sroots) (by kernel_rfl) (by kernel_rfl) (by kernel_rfl) (by kernel_rfl) (fun ⟨⟨acc, ⟨⟨A, ⟨ou, c⟩⟩, ⟨⟩⟩⟩, ⟨⟩⟩ => vc_sroots acc A ou c)⟩
noncomputable def cd_stotb : Code := (Go.Proofs.Try.f47.body).getD .skip
def sg_stotb : List Arg := [.ag [.rcs 1 32, .slr 2]]
def pr_stotb : SgT FMp sg_stotb → List Prop
  | ((acc, ((A, (ou, c)), ())), ()) => (fun (acc : List (Int × Int × List Int)) (A : Option Addr) (ou : List (Int × Int)) (c : Nat) => ([a64 acc] : List Prop)) acc A ou c
def ps_stotb : SgT FMp sg_stotb → PS FMp
  | ((acc, ((A, (ou, c)), ())), ()) => (fun (acc : List (Int × Int × List Int)) (A : Option Addr) (ou : List (Int × Int)) (c : Nat) => (⟨Unit, fun y => [], fun y => .tup [.one (.xv (.int .u64 (stV acc))), .one (.xv (.int .i64 (stE acc)))], fun y => [], fun y => []⟩ : PS FMp)) acc A ou c
def la_stotb : SgT FMp sg_stotb → List (Nat × (SS FMp → HA FMp))
  | ((acc, ((A, (ou, c)), ())), ()) => (fun (acc : List (Int × Int × List Int)) (A : Option Addr) (ou : List (Int × Int)) (c : Nat) => ([(3, fun S => ⟨Int × Int, fun y => [], fun n y => [(9, some (one (.int .i64 (y.1)))), (4, some (one (.int .u64 (y.2))))], fun n y => S.m, fun y => [0 ≤ y.1, y.1 ≤ 32, y.2 = sumA acc y.1.toNat, y.2 ≤ 4611686018427387904], fun y => (32 - y.1).toNat⟩)] : List (Nat × (SS FMp → HA FMp)))) acc A ou c
def ca_stotb : SgT FMp sg_stotb → List (Nat × (SS FMp → HA FMp))
  | ((acc, ((A, (ou, c)), ())), ()) => (fun (acc : List (Int × Int × List Int)) (A : Option Addr) (ou : List (Int × Int)) (c : Nat) => ([] : List (Nat × (SS FMp → HA FMp)))) acc A ou c
theorem vc_stotb (acc : List (Int × Int × List Int)) (A : Option Addr) (ou : List (Int × Int)) (c : Nat) : Vc (vc (FM := FMp) Xp 28 [] (la_stotb ((acc, ((A, (ou, c)), ())), ())) (ca_stotb ((acc, ((A, (ou, c)), ())), ())) [] [] [.tmp 2, .tmp 3] sg_stotb pr_stotb ps_stotb cd_stotb 300 ((acc, ((A, (ou, c)), ())), ())) := by
  refine ⟨Eq.mpr (β := acc.length = (32 : Nat) → (∀ (a : Int × Int × List Int), List.Mem a acc → a.2.2.length = (32 : Nat)) → (∀ (a : Int × Int), a ∈ ou → True) → a64 acc → ∀ (b : Nat), (∃ (y : Int × Int), (0 : Int) = y.1 ∧ (0 : Int) = y.2 ∧ acc = acc ∧ (32 : Nat) = (32 : Nat) ∧ ou.length = ou.length ∧ c = c ∧ (0 : Int) ≤ y.1 ∧ y.1 ≤ (32 : Int) ∧ y.2 = sumA acc y.1.toNat ∧ y.2 ≤ (4611686018427387904 : Int)) ∧ ∀ (y : Int × Int), acc.length = (32 : Nat) → (∀ (a : Int × Int × List Int), a ∈ acc → a.2.2.length = (32 : Nat)) → (0 : Int) ≤ y.1 → y.1 ≤ (32 : Int) → y.2 = sumA acc y.1.toNat → y.2 ≤ (4611686018427387904 : Int) → (decide (y.1 < (32 : Int)) = true → (0 : Int) ≤ y.1 ∧ y.1 < (32 : Int) ∧ y.1.toNat < (32 : Nat) ∧ ∀ (b : Nat), ((decide ((4611686018427387904 : Int) < (acc.getD y.1.toNat ((0, 0, List.replicate 32 0) : Int × Int × List Int)).1) || decide ((4611686018427387904 : Int) < IntKind.u64.wrap (y.2 + (acc.getD y.1.toNat ((0, 0, List.replicate 32 0) : Int × Int × List Int)).1))) = true → ∃ (y : Unit), (0 : Int) = stV acc ∧ (4 : Int) = stE acc) ∧ ((decide ((4611686018427387904 : Int) < (acc.getD y.1.toNat ((0, 0, List.replicate 32 0) : Int × Int × List Int)).1) || decide ((4611686018427387904 : Int) < IntKind.u64.wrap (y.2 + (acc.getD y.1.toNat ((0, 0, List.replicate 32 0) : Int × Int × List Int)).1))) = false → (-9223372036854775808 : Int) ≤ y.1 + (1 : Int) ∧ y.1 + (1 : Int) ≤ (9223372036854775807 : Int) ∧ ∃ (y_1 : Int × Int), y.1 + (1 : Int) = y_1.1 ∧ IntKind.u64.wrap (y.2 + (acc.getD y.1.toNat ((0, 0, List.replicate 32 0) : Int × Int × List Int)).1) = y_1.2 ∧ acc = acc ∧ (32 : Nat) = (32 : Nat) ∧ ou.length = ou.length ∧ c = c ∧ (0 : Int) ≤ y_1.1 ∧ y_1.1 ≤ (32 : Int) ∧ y_1.2 = sumA acc y_1.1.toNat ∧ y_1.2 ≤ (4611686018427387904 : Int) ∧ ((32 : Int) - y_1.1).toNat < ((32 : Int) - y.1).toNat)) ∧ (decide (y.1 < (32 : Int)) = false → ∃ (y_1 : Unit), y.2 = stV acc ∧ (0 : Int) = stE acc)) (by kernel_rfl) ?_⟩
  simp only [imin, imax, decide_eq_true_eq, decide_eq_false_iff_not, Prod.forall, Prod.exists, exists_eq_left', exists_eq_left, exists_and_left, exists_and_right, exists_eq_right, exists_eq, exists_eq', true_and, and_true, forall_const, exists_const, eq_self, Bool.not_eq_true, Bool.not_eq_eq_eq_not, Bool.not_true, Bool.not_false, Value.slice.injEq, Option.getD_some, imp_self, implies_true, Option.some.injEq, Addr.mk.injEq, true_or, or_true, List.length_cons, List.length_nil, Nat.zero_add, Nat.reduceAdd]
  intro hp hw hr
  refine ⟨⟨by omega, by omega, rfl, by omega⟩, fun k t _ _ h0 h1 ht h2 => ⟨fun h3 => ?_, fun h3 => ?_⟩⟩
  · have hx := hr k.toNat
    have hnn := sumA_nn hr k.toNat
    have e : sumA acc (k.toNat + 1) = sumA acc k.toNat + (acc.getD k.toNat (0, 0, List.replicate 32 0)).1 := rfl
    have e1 : (k + 1).toNat = k.toNat + 1 := by omega
    have hm := sumA_mono hr (show k.toNat + 1 ≤ 32 by omega)
    refine ⟨h0, h3, by omega, fun h => ?_, fun h => ?_⟩
    · have hn : ¬ stOk acc := by
        intro o
        unfold stOk at o
        simp only [Bool.or_eq_true, decide_eq_true_eq] at h
        rw [wrap64] at h
        rcases h with h | h <;> omega
      exact ⟨by rw [stV, if_neg hn], by rw [stE, if_neg hn]⟩
    · simp only [Bool.or_eq_false_iff, decide_eq_false_iff_not] at h
      rw [wrap64] at h ⊢
      rw [Int.emod_eq_of_lt (by omega) (by omega)] at h ⊢
      exact ⟨by omega, by omega, by omega, by omega, by rw [e1, e, ht], by omega, by omega⟩
  · have hk : k.toNat = 32 := by omega
    have o : stOk acc := by rw [stOk, ← hk, ← ht]; exact h2
    exact ⟨by rw [stV, if_pos o, ht, hk], by rw [stE, if_pos o]⟩
noncomputable def con_stotb : Con Xp.P FMp := ⟨47, sg_stotb, pr_stotb, ps_stotb, vc_ok (La := la_stotb) (Ca := ca_stotb) 300 (fn := Go.Proofs.Try.f47) (by kernel_rfl) (c := cd_stotb) (by kernel_rfl) (by kernel_rfl) (by kernel_rfl) (by kernel_rfl) (fun ⟨⟨acc, ⟨⟨A, ⟨ou, c⟩⟩, ⟨⟩⟩⟩, ⟨⟩⟩ => vc_stotb acc A ou c)⟩
noncomputable def cd_smayb : Code := (Go.Proofs.Try.f49.body).getD .skip
def sg_smayb : List Arg := [.ag [.rcs 1 32, .slr 2]]
def pr_smayb : SgT FMp sg_smayb → List Prop
  | ((acc, ((A, (ou, c)), ())), ()) => (fun (acc : List (Int × Int × List Int)) (A : Option Addr) (ou : List (Int × Int)) (c : Nat) => ([a64 acc] : List Prop)) acc A ou c
def ps_smayb : SgT FMp sg_smayb → PS FMp
  | ((acc, ((A, (ou, c)), ())), ()) => (fun (acc : List (Int × Int × List Int)) (A : Option Addr) (ou : List (Int × Int)) (c : Nat) => (⟨Unit, fun y => [], fun y => one (.bool ((decide (stE acc = 0) && decide (ou.length ≤ 32)))), fun y => [], fun y => []⟩ : PS FMp)) acc A ou c
def la_smayb : SgT FMp sg_smayb → List (Nat × (SS FMp → HA FMp))
  | ((acc, ((A, (ou, c)), ())), ()) => (fun (acc : List (Int × Int × List Int)) (A : Option Addr) (ou : List (Int × Int)) (c : Nat) => ([] : List (Nat × (SS FMp → HA FMp)))) acc A ou c
def ca_smayb : SgT FMp sg_smayb → List (Nat × (SS FMp → HA FMp))
  | ((acc, ((A, (ou, c)), ())), ()) => (fun (acc : List (Int × Int × List Int)) (A : Option Addr) (ou : List (Int × Int)) (c : Nat) => ([] : List (Nat × (SS FMp → HA FMp)))) acc A ou c
theorem vc_smayb (acc : List (Int × Int × List Int)) (A : Option Addr) (ou : List (Int × Int)) (c : Nat) : Vc (vc (FM := FMp) Xp 18 [con_stotb] (la_smayb ((acc, ((A, (ou, c)), ())), ())) (ca_smayb ((acc, ((A, (ou, c)), ())), ())) [] [] [.tmp 2] sg_smayb pr_smayb ps_smayb cd_smayb 300 ((acc, ((A, (ou, c)), ())), ())) := by
  refine ⟨Eq.mpr (β := acc.length = (32 : Nat) → (∀ (a : Int × Int × List Int), List.Mem a acc → a.2.2.length = (32 : Nat)) → (∀ (a : Int × Int), a ∈ ou → True) → a64 acc → ∀ (b : Nat), ou.length = ou.length ∧ a64 acc ∧ ∀ (y : Unit), ∃ (y : Unit), (decide (stE acc = (0 : Int)) && decide ((↑ou.length : Int) ≤ (32 : Int))) = (decide (stE acc = (0 : Int)) && decide (ou.length ≤ (32 : Nat)))) (by kernel_rfl) ?_⟩
  simp only [imin, imax, decide_eq_true_eq, decide_eq_false_iff_not, Prod.forall, Prod.exists, exists_eq_left', exists_eq_left, exists_and_left, exists_and_right, exists_eq_right, exists_eq, exists_eq', true_and, and_true, forall_const, exists_const, eq_self, Bool.not_eq_true, Bool.not_eq_eq_eq_not, Bool.not_true, Bool.not_false, Value.slice.injEq, Option.getD_some, imp_self, implies_true, Option.some.injEq, Addr.mk.injEq, true_or, or_true, List.length_cons, List.length_nil, Nat.zero_add, Nat.reduceAdd]
  intro _ _ h
  refine ⟨h, ?_⟩
  congr 1
  rw [decide_eq_decide]
  omega
noncomputable def con_smayb : Con Xp.P FMp := ⟨49, sg_smayb, pr_smayb, ps_smayb, vc_ok (La := la_smayb) (Ca := ca_smayb) 300 (fn := Go.Proofs.Try.f49) (by kernel_rfl) (c := cd_smayb) (by kernel_rfl) (by kernel_rfl) (by kernel_rfl) (by kernel_rfl) (fun ⟨⟨acc, ⟨⟨A, ⟨ou, c⟩⟩, ⟨⟩⟩⟩, ⟨⟩⟩ => vc_smayb acc A ou c)⟩
noncomputable def cd_sroot6 : Code := (Go.Proofs.Try.f26.body).getD .skip
def sg_sroot6 : List Arg := [.ag [.rcs 1 32, .slr 2]]
def pr_sroot6 : SgT FMp sg_sroot6 → List Prop
  | ((acc, ((A, (ou, c)), ())), ()) => (fun (acc : List (Int × Int × List Int)) (A : Option Addr) (ou : List (Int × Int)) (c : Nat) => ([a64 acc] : List Prop)) acc A ou c
def ps_sroot6 : SgT FMp sg_sroot6 → PS FMp
  | ((acc, ((A, (ou, c)), ())), ()) => (fun (acc : List (Int × Int × List Int)) (A : Option Addr) (ou : List (Int × Int)) (c : Nat) => (⟨Unit, fun y => [], fun y => .tup [.ag (zz .u8 (rt6 acc ou) 32), .one (.xv (.int .i64 (rtE6 acc ou)))], fun y => [], fun y => [(rt6 acc ou).length = 32]⟩ : PS FMp)) acc A ou c
def la_sroot6 : SgT FMp sg_sroot6 → List (Nat × (SS FMp → HA FMp))
  | ((acc, ((A, (ou, c)), ())), ()) => (fun (acc : List (Int × Int × List Int)) (A : Option Addr) (ou : List (Int × Int)) (c : Nat) => ([] : List (Nat × (SS FMp → HA FMp)))) acc A ou c
def ca_sroot6 : SgT FMp sg_sroot6 → List (Nat × (SS FMp → HA FMp))
  | ((acc, ((A, (ou, c)), ())), ()) => (fun (acc : List (Int × Int × List Int)) (A : Option Addr) (ou : List (Int × Int)) (c : Nat) => ([] : List (Nat × (SS FMp → HA FMp)))) acc A ou c
theorem vc_sroot6 (acc : List (Int × Int × List Int)) (A : Option Addr) (ou : List (Int × Int)) (c : Nat) : Vc (vc (FM := FMp) Xp 28 [con_smayb, con_sroots, con_stop_] (la_sroot6 ((acc, ((A, (ou, c)), ())), ())) (ca_sroot6 ((acc, ((A, (ou, c)), ())), ())) [] [] [.cell 2 40, .tmp 3] sg_sroot6 pr_sroot6 ps_sroot6 cd_sroot6 300 ((acc, ((A, (ou, c)), ())), ())) := by
  refine ⟨Eq.mpr (β := acc.length = (32 : Nat) → (∀ (a : Int × Int × List Int), List.Mem a acc → a.2.2.length = (32 : Nat)) → (∀ (a : Int × Int), a ∈ ou → True) → a64 acc → ∀ (b b : Nat), ou.length = ou.length ∧ a64 acc ∧ ∀ (y : Unit), ((!(decide (stE acc = (0 : Int)) && decide (ou.length ≤ (32 : Nat)))) = true → ∃ (y : Unit), List.replicate (32 : Nat) (0 : Int) = rt6 acc ou ∧ (32 : Nat) = (32 : Nat) ∧ (2 : Int) = rtE6 acc ou ∧ (rt6 acc ou).length = (32 : Nat)) ∧ ((!(decide (stE acc = (0 : Int)) && decide (ou.length ≤ (32 : Nat)))) = false → ou.length = ou.length ∧ ou.length ≤ (32 : Nat) ∧ ∀ (y : Unit), (rootH (5 : Int) (accL acc)).length = (32 : Nat) → (rootH (5 : Int) (outL ou)).length = (32 : Nat) → (rootH (5 : Int) (accL acc)).length = (32 : Nat) → (rootH (5 : Int) (outL ou)).length = (32 : Nat) → ∀ (b b : Nat), ((!decide ((0 : Int) = (0 : Int))) = true → ∃ (y : Unit), List.replicate (32 : Nat) (0 : Int) = rt6 acc ou ∧ (32 : Nat) = (32 : Nat) ∧ (0 : Int) = rtE6 acc ou ∧ (rt6 acc ou).length = (32 : Nat)) ∧ ((!decide ((0 : Int) = (0 : Int))) = false → ∀ (y : Unit), (topF (rootH (5 : Int) (accL acc)) (rootH (5 : Int) (outL ou)) (IntKind.u64.wrap (↑ou.length : Int))).length = (32 : Nat) → (topF (rootH (5 : Int) (accL acc)) (rootH (5 : Int) (outL ou)) (IntKind.u64.wrap (↑ou.length : Int))).length = (32 : Nat) → ∃ (y : Unit), topF (rootH (5 : Int) (accL acc)) (rootH (5 : Int) (outL ou)) (IntKind.u64.wrap (↑ou.length : Int)) = rt6 acc ou ∧ (32 : Nat) = (32 : Nat) ∧ (0 : Int) = rtE6 acc ou ∧ (rt6 acc ou).length = (32 : Nat)))) (by kernel_rfl) ?_⟩
  simp only [imin, imax, decide_eq_true_eq, decide_eq_false_iff_not, Prod.forall, Prod.exists, exists_eq_left', exists_eq_left, exists_and_left, exists_and_right, exists_eq_right, exists_eq, exists_eq', true_and, and_true, forall_const, exists_const, eq_self, Bool.not_eq_true, Bool.not_eq_eq_eq_not, Bool.not_true, Bool.not_false, Value.slice.injEq, Option.getD_some, imp_self, implies_true, Option.some.injEq, Addr.mk.injEq, true_or, or_true, List.length_cons, List.length_nil, Nat.zero_add, Nat.reduceAdd]
  intro hac hlk ha
  refine ⟨ha, fun h => ?_, fun h => ?_⟩
  · have hn : ¬ st6 acc ou := fun o => by
      unfold st6 at o
      simp [o.1, o.2] at h
    exact ⟨by rw [rt6, if_neg hn], by rw [rtE6, if_neg hn], by rw [rt6, if_neg hn]; simp⟩
  simp only [Bool.and_eq_true, decide_eq_true_eq] at h
  have hs : st6 acc ou := h
  have hw : IntKind.u64.wrap (ou.length : Int) = (ou.length : Int) := by rw [wrap64, Int.emod_eq_of_lt (by omega) (by omega)]
  rw [hw]
  exact ⟨h.2, fun _ _ _ _ => ⟨fun h' => absurd trivial h', fun h3 _ => ⟨by rw [rt6, if_pos hs], by rw [rtE6, if_pos hs], by rw [rt6, if_pos hs]; exact h3⟩⟩⟩
noncomputable def con_sroot6 : Con Xp.P FMp := ⟨26, sg_sroot6, pr_sroot6, ps_sroot6, vc_ok (La := la_sroot6) (Ca := ca_sroot6) 300 (fn := Go.Proofs.Try.f26) (by kernel_rfl) (c := cd_sroot6) (by kernel_rfl) (by kernel_rfl) (by kernel_rfl) (by kernel_rfl) (fun ⟨⟨acc, ⟨⟨A, ⟨ou, c⟩⟩, ⟨⟩⟩⟩, ⟨⟩⟩ => vc_sroot6 acc A ou c)⟩
noncomputable def cd_sprove : Code := (Go.Proofs.Try.f37.body).getD .skip
def sg_sprove : List Arg := [.ag [.rcs 1 32, .slr 2], .one (.int .i64)]
def pr_sprove : SgT FMp sg_sprove → List Prop
  | ((acc, ((A, (ou, c)), ())), (i, ())) => (fun (acc : List (Int × Int × List Int)) (A : Option Addr) (ou : List (Int × Int)) (c : Nat) (i : Int) => ([a64 acc] : List Prop)) acc A ou c i
def ps_sprove : SgT FMp sg_sprove → PS FMp
  | ((acc, ((A, (ou, c)), ())), (i, ())) => (fun (acc : List (Int × Int × List Int)) (A : Option Addr) (ou : List (Int × Int)) (c : Nat) (i : Int) => (⟨(Option Addr) × Nat × (List (List Int)) × (List Int) × Int × Int, fun y => [.ad y.1], fun y => .tup [.ag [.b (.cl (.sc 0 0 y.2.2.1.length y.2.1 false)), .b (.iz .u8 y.2.2.2.1 32), .b (.cl (.xv (.int .u64 (y.2.2.2.2.1))))], .one (.xv (.int .i64 y.2.2.2.2.2))], fun y => [.sl 0 (y.2.2.1.length) y.2.1 [.f 0 (y.2.2.1) (y.2.2.1.length)] 40 32], fun y => [paRes acc ou i y.2.2.1 y.2.2.2.1 y.2.2.2.2.1 y.2.2.2.2.2, y.2.2.2.1.length = 32, ∀ a ∈ y.2.2.1, a.length = 32]⟩ : PS FMp)) acc A ou c i
def la_sprove : SgT FMp sg_sprove → List (Nat × (SS FMp → HA FMp))
  | ((acc, ((A, (ou, c)), ())), (i, ())) => (fun (acc : List (Int × Int × List Int)) (A : Option Addr) (ou : List (Int × Int)) (c : Nat) (i : Int) => ([] : List (Nat × (SS FMp → HA FMp)))) acc A ou c i
def ca_sprove : SgT FMp sg_sprove → List (Nat × (SS FMp → HA FMp))
  | ((acc, ((A, (ou, c)), ())), (i, ())) => (fun (acc : List (Int × Int × List Int)) (A : Option Addr) (ou : List (Int × Int)) (c : Nat) (i : Int) => ([] : List (Nat × (SS FMp → HA FMp)))) acc A ou c i
theorem vc_sprove (acc : List (Int × Int × List Int)) (A : Option Addr) (ou : List (Int × Int)) (c : Nat) (i : Int) : Vc (vc (FM := FMp) Xp 37 [con_smayb, con_strees, con_sroots, con_mproof] (la_sprove ((acc, ((A, (ou, c)), ())), (i, ()))) (ca_sprove ((acc, ((A, (ou, c)), ())), (i, ()))) [] [75] [.cell 4 45, .tmp 5] sg_sprove pr_sprove ps_sprove cd_sprove 300 ((acc, ((A, (ou, c)), ())), (i, ()))) := by
  refine ⟨Eq.mpr (β := acc.length = (32 : Nat) → (∀ (a : Int × Int × List Int), List.Mem a acc → a.2.2.length = (32 : Nat)) → (∀ (a : Int × Int), a ∈ ou → True) → a64 acc → ∀ (b b : Nat), ou.length = ou.length ∧ a64 acc ∧ ∀ (y : Unit), ((!(decide (stE acc = (0 : Int)) && decide (ou.length ≤ (32 : Nat)))) = true → ∃ (y : Option Addr × Nat × List (List Int) × List Int × Int × Int), Value.slice none (0 : Nat) (0 : Nat) = Value.slice y.1 y.snd.2.1.length y.2.1 ∧ List.replicate (32 : Nat) (0 : Int) = y.snd.snd.2.1 ∧ (32 : Nat) = (32 : Nat) ∧ (0 : Int) = y.snd.snd.snd.2.1 ∧ (2 : Int) = y.snd.snd.snd.2.2 ∧ y.1 = none ∧ y.snd.2.1.length = (0 : Nat) ∧ y.2.1 = (0 : Nat) ∧ y.snd.2.1 = [] ∧ y.snd.2.1.length = (0 : Nat) ∧ paRes acc ou i y.snd.2.1 y.snd.snd.2.1 y.snd.snd.snd.2.1 y.snd.snd.snd.2.2 ∧ y.snd.snd.2.1.length = (32 : Nat) ∧ ∀ (a : List Int), a ∈ y.snd.2.1 → a.length = (32 : Nat)) ∧ ((!(decide (stE acc = (0 : Int)) && decide (ou.length ≤ (32 : Nat)))) = false → ou.length = ou.length ∧ ou.length ≤ (4398046511103 : Nat) ∧ ∀ (y : Option Addr × Nat × Option Addr × Nat), (accL acc).length = (accL acc).length → (∀ (a : List Int), a ∈ accL acc → a.length = (32 : Nat)) → (outL ou).length = (outL ou).length → (∀ (a : List Int), a ∈ outL ou → a.length = (32 : Nat)) → (accL acc).length ≤ y.2.1 → (outL ou).length ≤ y.snd.2.2 → ou.length = ou.length ∧ ou.length ≤ (32 : Nat) ∧ ∀ (y : Unit), (rootH (5 : Int) (accL acc)).length = (32 : Nat) → (rootH (5 : Int) (outL ou)).length = (32 : Nat) → (rootH (5 : Int) (accL acc)).length = (32 : Nat) → (rootH (5 : Int) (outL ou)).length = (32 : Nat) → ∀ (b b : Nat), ((!decide ((0 : Int) = (0 : Int))) = true → ∃ (y : Option Addr × Nat × List (List Int) × List Int × Int × Int), Value.slice none (0 : Nat) (0 : Nat) = Value.slice y.1 y.snd.2.1.length y.2.1 ∧ List.replicate (32 : Nat) (0 : Int) = y.snd.snd.2.1 ∧ (32 : Nat) = (32 : Nat) ∧ (0 : Int) = y.snd.snd.snd.2.1 ∧ (0 : Int) = y.snd.snd.snd.2.2 ∧ y.1 = none ∧ y.snd.2.1.length = (0 : Nat) ∧ y.2.1 = (0 : Nat) ∧ y.snd.2.1 = [] ∧ y.snd.2.1.length = (0 : Nat) ∧ paRes acc ou i y.snd.2.1 y.snd.snd.2.1 y.snd.snd.snd.2.1 y.snd.snd.snd.2.2 ∧ y.snd.snd.2.1.length = (32 : Nat) ∧ ∀ (a : List Int), a ∈ y.snd.2.1 → a.length = (32 : Nat)) ∧ ((!decide ((0 : Int) = (0 : Int))) = false → ∀ (b b b : Nat), (accL acc).length = (accL acc).length ∧ ∀ (y : Option Addr × Nat), (prfL (5 : Int) (accL acc) i).length = (prfL (5 : Int) (accL acc) i).length → (∀ (a : List Int), a ∈ prfL (5 : Int) (accL acc) i → a.length = (32 : Nat)) → (prfL (5 : Int) (accL acc) i).length ≤ y.2 → (∀ (a : List Int), a ∈ prfL (5 : Int) (accL acc) i → a.length = (32 : Nat)) → ((!decide (askV (5 : Int) i (↑(accL acc).length : Int) = (0 : Int))) = true → ∃ (y : Option Addr × Nat × List (List Int) × List Int × Int × Int), Value.slice none (0 : Nat) (0 : Nat) = Value.slice y.1 y.snd.2.1.length y.2.1 ∧ List.replicate (32 : Nat) (0 : Int) = y.snd.snd.2.1 ∧ (32 : Nat) = (32 : Nat) ∧ (0 : Int) = y.snd.snd.snd.2.1 ∧ (2 : Int) = y.snd.snd.snd.2.2 ∧ y.1 = none ∧ y.snd.2.1.length = (0 : Nat) ∧ y.2.1 = (0 : Nat) ∧ y.snd.2.1 = [] ∧ y.snd.2.1.length = (0 : Nat) ∧ paRes acc ou i y.snd.2.1 y.snd.snd.2.1 y.snd.snd.snd.2.1 y.snd.snd.snd.2.2 ∧ y.snd.snd.2.1.length = (32 : Nat) ∧ ∀ (a : List Int), a ∈ y.snd.2.1 → a.length = (32 : Nat)) ∧ ((!decide (askV (5 : Int) i (↑(accL acc).length : Int) = (0 : Int))) = false → ∃ (y_1 : Option Addr × Nat × List (List Int) × List Int × Int × Int), y.1 = y_1.1 ∧ (prfL (5 : Int) (accL acc) i).length = y_1.snd.2.1.length ∧ y.2 = y_1.2.1 ∧ rootH (5 : Int) (outL ou) = y_1.snd.snd.2.1 ∧ (32 : Nat) = (32 : Nat) ∧ IntKind.u64.wrap (↑ou.length : Int) = y_1.snd.snd.snd.2.1 ∧ (0 : Int) = y_1.snd.snd.snd.2.2 ∧ y.1 = y_1.1 ∧ (prfL (5 : Int) (accL acc) i).length = y_1.snd.2.1.length ∧ y.2 = y_1.2.1 ∧ prfL (5 : Int) (accL acc) i = y_1.snd.2.1 ∧ (prfL (5 : Int) (accL acc) i).length = y_1.snd.2.1.length ∧ paRes acc ou i y_1.snd.2.1 y_1.snd.snd.2.1 y_1.snd.snd.snd.2.1 y_1.snd.snd.snd.2.2 ∧ y_1.snd.snd.2.1.length = (32 : Nat) ∧ ∀ (a : List Int), a ∈ y_1.snd.2.1 → a.length = (32 : Nat))))) (by kernel_rfl) ?_⟩
  simp only [imin, imax, decide_eq_true_eq, decide_eq_false_iff_not, Prod.forall, Prod.exists, exists_eq_left', exists_eq_left, exists_and_left, exists_and_right, exists_eq_right, exists_eq, exists_eq', true_and, and_true, forall_const, exists_const, eq_self, Bool.not_eq_true, Bool.not_eq_eq_eq_not, Bool.not_true, Bool.not_false, Value.slice.injEq, Option.getD_some, imp_self, implies_true, Option.some.injEq, Addr.mk.injEq, true_or, or_true, List.length_cons, List.length_nil, Nat.zero_add, Nat.reduceAdd]
  intro hac hlk ha
  refine ⟨ha, fun h => ⟨none, 0, [], ⟨rfl, rfl, rfl⟩, rfl, rfl, rfl, rfl, rfl, .inr ⟨fun o => ?_, rfl, rfl, rfl, rfl⟩, by simp, by simp⟩, fun h => ?_⟩
  · obtain ⟨⟨o1, o2⟩, o3, o4⟩ := o
    simp [o1, o2] at h
  simp only [Bool.and_eq_true, decide_eq_true_eq] at h
  have hs := h
  have hs : st6 acc ou := hs
  have hn := hs.2
  have hw : IntKind.u64.wrap (ou.length : Int) = (ou.length : Int) := by rw [wrap64, Int.emod_eq_of_lt (by omega) (by omega)]
  rw [hw]
  refine ⟨by omega, fun q r _ _ hq hr => ⟨hn, fun h1 h2 _ _ => ⟨fun h' => absurd trivial h', fun z h32 hz _ => ⟨fun hk => ⟨none, 0, [], ⟨rfl, rfl, rfl⟩, rfl, rfl, rfl, rfl, rfl, .inr ⟨fun o => hk (ask5 o.2.1 (by have := o.2.2; omega) (by rw [accL_length]; omega)), rfl, rfl, rfl, rfl⟩, by simp, by simp⟩, fun hk => ⟨z, _, rfl, rfl, rfl, rfl, rfl, rfl, .inl ⟨⟨hs, ?_⟩, rfl, rfl, rfl, rfl⟩, h2, h32⟩⟩⟩⟩⟩
  have := ask5_inv hk
  omega
noncomputable def con_sprove : Con Xp.P FMp := ⟨37, sg_sprove, pr_sprove, ps_sprove, vc_ok (La := la_sprove) (Ca := ca_sprove) 300 (fn := Go.Proofs.Try.f37) (by kernel_rfl) (c := cd_sprove) (by kernel_rfl) (by kernel_rfl) (by kernel_rfl) (by kernel_rfl) (fun ⟨⟨acc, ⟨⟨A, ⟨ou, c⟩⟩, ⟨⟩⟩⟩, ⟨i, ⟨⟩⟩⟩ => vc_sprove acc A ou c i)⟩
noncomputable def cd_sproveo : Code := (Go.Proofs.Try.f46.body).getD .skip
def sg_sproveo : List Arg := [.ag [.rcs 1 32, .slr 2], .one (.int .i64)]
def pr_sproveo : SgT FMp sg_sproveo → List Prop
  | ((acc, ((A, (ou, c)), ())), (i, ())) => (fun (acc : List (Int × Int × List Int)) (A : Option Addr) (ou : List (Int × Int)) (c : Nat) (i : Int) => ([a64 acc] : List Prop)) acc A ou c i
def ps_sproveo : SgT FMp sg_sproveo → PS FMp
  | ((acc, ((A, (ou, c)), ())), (i, ())) => (fun (acc : List (Int × Int × List Int)) (A : Option Addr) (ou : List (Int × Int)) (c : Nat) (i : Int) => (⟨(Option Addr) × Nat × (List (List Int)) × (List Int) × Int × Int, fun y => [.ad y.1], fun y => .tup [.ag [.b (.cl (.sc 0 0 y.2.2.1.length y.2.1 false)), .b (.iz .u8 y.2.2.2.1 32), .b (.cl (.xv (.int .u64 (y.2.2.2.2.1))))], .one (.xv (.int .i64 y.2.2.2.2.2))], fun y => [.sl 0 (y.2.2.1.length) y.2.1 [.f 0 (y.2.2.1) (y.2.2.1.length)] 40 32], fun y => [poRes acc ou i y.2.2.1 y.2.2.2.1 y.2.2.2.2.1 y.2.2.2.2.2, y.2.2.2.1.length = 32, ∀ a ∈ y.2.2.1, a.length = 32]⟩ : PS FMp)) acc A ou c i
def la_sproveo : SgT FMp sg_sproveo → List (Nat × (SS FMp → HA FMp))
  | ((acc, ((A, (ou, c)), ())), (i, ())) => (fun (acc : List (Int × Int × List Int)) (A : Option Addr) (ou : List (Int × Int)) (c : Nat) (i : Int) => ([] : List (Nat × (SS FMp → HA FMp)))) acc A ou c i
def ca_sproveo : SgT FMp sg_sproveo → List (Nat × (SS FMp → HA FMp))
  | ((acc, ((A, (ou, c)), ())), (i, ())) => (fun (acc : List (Int × Int × List Int)) (A : Option Addr) (ou : List (Int × Int)) (c : Nat) (i : Int) => ([] : List (Nat × (SS FMp → HA FMp)))) acc A ou c i
theorem vc_sproveo (acc : List (Int × Int × List Int)) (A : Option Addr) (ou : List (Int × Int)) (c : Nat) (i : Int) : Vc (vc (FM := FMp) Xp 44 [con_smayb, con_strees, con_sroots, con_mproof] (la_sproveo ((acc, ((A, (ou, c)), ())), (i, ()))) (ca_sproveo ((acc, ((A, (ou, c)), ())), (i, ()))) [] [75] [.cell 4 45, .tmp 5] sg_sproveo pr_sproveo ps_sproveo cd_sproveo 300 ((acc, ((A, (ou, c)), ())), (i, ()))) := by
  refine ⟨Eq.mpr (β := acc.length = (32 : Nat) → (∀ (a : Int × Int × List Int), List.Mem a acc → a.2.2.length = (32 : Nat)) → (∀ (a : Int × Int), a ∈ ou → True) → a64 acc → ∀ (b b : Nat), ou.length = ou.length ∧ a64 acc ∧ ∀ (y : Unit), ((!(decide (stE acc = (0 : Int)) && decide (ou.length ≤ (32 : Nat))) || decide ((↑ou.length : Int) ≤ i)) = true → ∃ (y : Option Addr × Nat × List (List Int) × List Int × Int × Int), Value.slice none (0 : Nat) (0 : Nat) = Value.slice y.1 y.snd.2.1.length y.2.1 ∧ List.replicate (32 : Nat) (0 : Int) = y.snd.snd.2.1 ∧ (32 : Nat) = (32 : Nat) ∧ (0 : Int) = y.snd.snd.snd.2.1 ∧ (2 : Int) = y.snd.snd.snd.2.2 ∧ y.1 = none ∧ y.snd.2.1.length = (0 : Nat) ∧ y.2.1 = (0 : Nat) ∧ y.snd.2.1 = [] ∧ y.snd.2.1.length = (0 : Nat) ∧ poRes acc ou i y.snd.2.1 y.snd.snd.2.1 y.snd.snd.snd.2.1 y.snd.snd.snd.2.2 ∧ y.snd.snd.2.1.length = (32 : Nat) ∧ ∀ (a : List Int), a ∈ y.snd.2.1 → a.length = (32 : Nat)) ∧ ((!(decide (stE acc = (0 : Int)) && decide (ou.length ≤ (32 : Nat))) || decide ((↑ou.length : Int) ≤ i)) = false → ou.length = ou.length ∧ ou.length ≤ (4398046511103 : Nat) ∧ ∀ (y : Option Addr × Nat × Option Addr × Nat), (accL acc).length = (accL acc).length → (∀ (a : List Int), a ∈ accL acc → a.length = (32 : Nat)) → (outL ou).length = (outL ou).length → (∀ (a : List Int), a ∈ outL ou → a.length = (32 : Nat)) → (accL acc).length ≤ y.2.1 → (outL ou).length ≤ y.snd.2.2 → ou.length = ou.length ∧ ou.length ≤ (32 : Nat) ∧ ∀ (y : Unit), (rootH (5 : Int) (accL acc)).length = (32 : Nat) → (rootH (5 : Int) (outL ou)).length = (32 : Nat) → (rootH (5 : Int) (accL acc)).length = (32 : Nat) → (rootH (5 : Int) (outL ou)).length = (32 : Nat) → ∀ (b b : Nat), ((!decide ((0 : Int) = (0 : Int))) = true → ∃ (y : Option Addr × Nat × List (List Int) × List Int × Int × Int), Value.slice none (0 : Nat) (0 : Nat) = Value.slice y.1 y.snd.2.1.length y.2.1 ∧ List.replicate (32 : Nat) (0 : Int) = y.snd.snd.2.1 ∧ (32 : Nat) = (32 : Nat) ∧ (0 : Int) = y.snd.snd.snd.2.1 ∧ (0 : Int) = y.snd.snd.snd.2.2 ∧ y.1 = none ∧ y.snd.2.1.length = (0 : Nat) ∧ y.2.1 = (0 : Nat) ∧ y.snd.2.1 = [] ∧ y.snd.2.1.length = (0 : Nat) ∧ poRes acc ou i y.snd.2.1 y.snd.snd.2.1 y.snd.snd.snd.2.1 y.snd.snd.snd.2.2 ∧ y.snd.snd.2.1.length = (32 : Nat) ∧ ∀ (a : List Int), a ∈ y.snd.2.1 → a.length = (32 : Nat)) ∧ ((!decide ((0 : Int) = (0 : Int))) = false → ∀ (b b b : Nat), (outL ou).length = (outL ou).length ∧ ∀ (y : Option Addr × Nat), (prfL (5 : Int) (outL ou) i).length = (prfL (5 : Int) (outL ou) i).length → (∀ (a : List Int), a ∈ prfL (5 : Int) (outL ou) i → a.length = (32 : Nat)) → (prfL (5 : Int) (outL ou) i).length ≤ y.2 → (∀ (a : List Int), a ∈ prfL (5 : Int) (outL ou) i → a.length = (32 : Nat)) → ((!decide (askV (5 : Int) i (↑(outL ou).length : Int) = (0 : Int))) = true → ∃ (y : Option Addr × Nat × List (List Int) × List Int × Int × Int), Value.slice none (0 : Nat) (0 : Nat) = Value.slice y.1 y.snd.2.1.length y.2.1 ∧ List.replicate (32 : Nat) (0 : Int) = y.snd.snd.2.1 ∧ (32 : Nat) = (32 : Nat) ∧ (0 : Int) = y.snd.snd.snd.2.1 ∧ (2 : Int) = y.snd.snd.snd.2.2 ∧ y.1 = none ∧ y.snd.2.1.length = (0 : Nat) ∧ y.2.1 = (0 : Nat) ∧ y.snd.2.1 = [] ∧ y.snd.2.1.length = (0 : Nat) ∧ poRes acc ou i y.snd.2.1 y.snd.snd.2.1 y.snd.snd.snd.2.1 y.snd.snd.snd.2.2 ∧ y.snd.snd.2.1.length = (32 : Nat) ∧ ∀ (a : List Int), a ∈ y.snd.2.1 → a.length = (32 : Nat)) ∧ ((!decide (askV (5 : Int) i (↑(outL ou).length : Int) = (0 : Int))) = false → ∃ (y_1 : Option Addr × Nat × List (List Int) × List Int × Int × Int), y.1 = y_1.1 ∧ (prfL (5 : Int) (outL ou) i).length = y_1.snd.2.1.length ∧ y.2 = y_1.2.1 ∧ rootH (5 : Int) (accL acc) = y_1.snd.snd.2.1 ∧ (32 : Nat) = (32 : Nat) ∧ IntKind.u64.wrap (↑ou.length : Int) = y_1.snd.snd.snd.2.1 ∧ (0 : Int) = y_1.snd.snd.snd.2.2 ∧ y.1 = y_1.1 ∧ (prfL (5 : Int) (outL ou) i).length = y_1.snd.2.1.length ∧ y.2 = y_1.2.1 ∧ prfL (5 : Int) (outL ou) i = y_1.snd.2.1 ∧ (prfL (5 : Int) (outL ou) i).length = y_1.snd.2.1.length ∧ poRes acc ou i y_1.snd.2.1 y_1.snd.snd.2.1 y_1.snd.snd.snd.2.1 y_1.snd.snd.snd.2.2 ∧ y_1.snd.snd.2.1.length = (32 : Nat) ∧ ∀ (a : List Int), a ∈ y_1.snd.2.1 → a.length = (32 : Nat))))) (by kernel_rfl) ?_⟩
  simp only [imin, imax, decide_eq_true_eq, decide_eq_false_iff_not, Prod.forall, Prod.exists, exists_eq_left', exists_eq_left, exists_and_left, exists_and_right, exists_eq_right, exists_eq, exists_eq', true_and, and_true, forall_const, exists_const, eq_self, Bool.not_eq_true, Bool.not_eq_eq_eq_not, Bool.not_true, Bool.not_false, Value.slice.injEq, Option.getD_some, imp_self, implies_true, Option.some.injEq, Addr.mk.injEq, true_or, or_true, List.length_cons, List.length_nil, Nat.zero_add, Nat.reduceAdd]
  intro hac hlk ha
  refine ⟨ha, fun h => ⟨none, 0, [], ⟨rfl, rfl, rfl⟩, rfl, rfl, rfl, rfl, rfl, .inr ⟨fun o => ?_, rfl, rfl, rfl, rfl⟩, by simp, by simp⟩, fun h => ?_⟩
  · obtain ⟨⟨o1, o2⟩, o3, o4⟩ := o
    simp only [o1, o2, decide_true, Bool.and_self, Bool.not_true, Bool.false_or, decide_eq_true_eq] at h
    omega
  simp only [Bool.or_eq_false_iff, Bool.not_eq_false', Bool.and_eq_true, decide_eq_true_eq, decide_eq_false_iff_not] at h
  have hs := h.1
  have hs : st6 acc ou := hs
  have hn := hs.2
  have hw : IntKind.u64.wrap (ou.length : Int) = (ou.length : Int) := by rw [wrap64, Int.emod_eq_of_lt (by omega) (by omega)]
  rw [hw]
  refine ⟨by omega, fun q r _ _ hq hr => ⟨hn, fun h1 h2 _ _ => ⟨fun h' => absurd trivial h', fun z h32 hz _ => ⟨fun hk => ⟨none, 0, [], ⟨rfl, rfl, rfl⟩, rfl, rfl, rfl, rfl, rfl, .inr ⟨fun o => hk (ask5 o.2.1 (by have := o.2.2; omega) (by rw [outL_length]; omega)), rfl, rfl, rfl, rfl⟩, by simp, by simp⟩, fun hk => ⟨z, _, rfl, rfl, rfl, rfl, rfl, rfl, .inl ⟨⟨hs, ?_⟩, rfl, rfl, rfl, rfl⟩, h1, h32⟩⟩⟩⟩⟩
  have := ask5_inv hk
  omega
noncomputable def con_sproveo : Con Xp.P FMp := ⟨46, sg_sproveo, pr_sproveo, ps_sproveo, vc_ok (La := la_sproveo) (Ca := ca_sproveo) 300 (fn := Go.Proofs.Try.f46) (by kernel_rfl) (c := cd_sproveo) (by kernel_rfl) (by kernel_rfl) (by kernel_rfl) (by kernel_rfl) (fun ⟨⟨acc, ⟨⟨A, ⟨ou, c⟩⟩, ⟨⟩⟩⟩, ⟨i, ⟨⟩⟩⟩ => vc_sproveo acc A ou c i)⟩
noncomputable def cd_schecka : Code := (Go.Proofs.Try.f27.body).getD .skip
def sg_schecka : List Arg := [.ag [.arr .u8 32], .one (.int .i64), .ag [.int .u64, .int .u64, .arr .u8 32], .ag [.slr 0, .arr .u8 32, .int .u64]]
def pr_schecka : SgT FMp sg_schecka → List Prop
  | ((root, ()), (i, ((b, (nn, (lk, ()))), (((P, (ps, pc)), (oth, (cnt, ()))), ())))) => (fun (root : List Int) (i b nn : Int) (lk : List Int) (P : Option Addr) (ps : List (List Int)) (pc : Nat) (oth : List Int) (cnt : Int) => ([] : List Prop)) root i b nn lk P ps pc oth cnt
def ps_schecka : SgT FMp sg_schecka → PS FMp
  | ((root, ()), (i, ((b, (nn, (lk, ()))), (((P, (ps, pc)), (oth, (cnt, ()))), ())))) => (fun (root : List Int) (i b nn : Int) (lk : List Int) (P : Option Addr) (ps : List (List Int)) (pc : Nat) (oth : List Int) (cnt : Int) => (⟨Unit, fun y => [], fun y => one (.bool (ckA root i b nn lk ps oth cnt)), fun y => [], fun y => []⟩ : PS FMp)) root i b nn lk P ps pc oth cnt
def la_schecka : SgT FMp sg_schecka → List (Nat × (SS FMp → HA FMp))
  | ((root, ()), (i, ((b, (nn, (lk, ()))), (((P, (ps, pc)), (oth, (cnt, ()))), ())))) => (fun (root : List Int) (i b nn : Int) (lk : List Int) (P : Option Addr) (ps : List (List Int)) (pc : Nat) (oth : List Int) (cnt : Int) => ([] : List (Nat × (SS FMp → HA FMp)))) root i b nn lk P ps pc oth cnt
def ca_schecka : SgT FMp sg_schecka → List (Nat × (SS FMp → HA FMp))
  | ((root, ()), (i, ((b, (nn, (lk, ()))), (((P, (ps, pc)), (oth, (cnt, ()))), ())))) => (fun (root : List Int) (i b nn : Int) (lk : List Int) (P : Option Addr) (ps : List (List Int)) (pc : Nat) (oth : List Int) (cnt : Int) => ([] : List (Nat × (SS FMp → HA FMp)))) root i b nn lk P ps pc oth cnt
theorem vc_schecka (root : List Int) (i b nn : Int) (lk : List Int) (P : Option Addr) (ps : List (List Int)) (pc : Nat) (oth : List Int) (cnt : Int) : Vc (vc (FM := FMp) Xp 30 [con_saccb, con_sfold, con_stop_] (la_schecka ((root, ()), (i, ((b, (nn, (lk, ()))), (((P, (ps, pc)), (oth, (cnt, ()))), ()))))) (ca_schecka ((root, ()), (i, ((b, (nn, (lk, ()))), (((P, (ps, pc)), (oth, (cnt, ()))), ()))))) [] [] [.tmp 8] sg_schecka pr_schecka ps_schecka cd_schecka 300 ((root, ()), (i, ((b, (nn, (lk, ()))), (((P, (ps, pc)), (oth, (cnt, ()))), ()))))) := by
  refine ⟨Eq.mpr (β := root.length = (32 : Nat) → lk.length = (32 : Nat) → (∀ (a : List Int), a ∈ ps → a.length = (32 : Nat)) → oth.length = (32 : Nat) → ∀ (b_1 b_2 b_3 : Nat), (∀ (y : Option Addr × Nat), (a48 b nn lk).length = (a48 b nn lk).length → (a48 b nn lk).length ≤ y.2 → ((a48 b nn lk).length = (a48 b nn lk).length ∧ ps.length = ps.length ∧ (a48 b nn lk).length ≤ (1000000 : Nat) ∧ ∀ (y : Unit), (sfoH i (a48 b nn lk) ps cnt).length = (32 : Nat) → (sfoH i (a48 b nn lk) ps cnt).length = (32 : Nat) → ∀ (b_4 : Nat), (sfoB i ps cnt = true → ∀ (y : Unit), (topF (sfoH i (a48 b nn lk) ps cnt) oth cnt).length = (32 : Nat) → (topF (sfoH i (a48 b nn lk) ps cnt) oth cnt).length = (32 : Nat) → ∃ (y : Unit), decide (topF (sfoH i (a48 b nn lk) ps cnt) oth cnt = root) = ckA root i b nn lk ps oth cnt) ∧ (sfoB i ps cnt = false → ∃ (y : Unit), false = ckA root i b nn lk ps oth cnt)) ∧ ∀ (b_4 : Nat), (a48 b nn lk).length = (a48 b nn lk).length ∧ ps.length = ps.length ∧ (a48 b nn lk).length ≤ (1000000 : Nat) ∧ ∀ (y : Unit), (sfoH i (a48 b nn lk) ps cnt).length = (32 : Nat) → (sfoH i (a48 b nn lk) ps cnt).length = (32 : Nat) → (sfoB i ps cnt = true → ∀ (y : Unit), (topF (sfoH i (a48 b nn lk) ps cnt) oth cnt).length = (32 : Nat) → (topF (sfoH i (a48 b nn lk) ps cnt) oth cnt).length = (32 : Nat) → ∃ (y : Unit), decide (topF (sfoH i (a48 b nn lk) ps cnt) oth cnt = root) = ckA root i b nn lk ps oth cnt) ∧ (sfoB i ps cnt = false → ∃ (y : Unit), false = ckA root i b nn lk ps oth cnt)) ∧ ∀ (b_4 : Nat) (y : Option Addr × Nat), (a48 b nn lk).length = (a48 b nn lk).length → (a48 b nn lk).length ≤ y.2 → (a48 b nn lk).length = (a48 b nn lk).length ∧ ps.length = ps.length ∧ (a48 b nn lk).length ≤ (1000000 : Nat) ∧ ∀ (y : Unit), (sfoH i (a48 b nn lk) ps cnt).length = (32 : Nat) → (sfoH i (a48 b nn lk) ps cnt).length = (32 : Nat) → (sfoB i ps cnt = true → ∀ (y : Unit), (topF (sfoH i (a48 b nn lk) ps cnt) oth cnt).length = (32 : Nat) → (topF (sfoH i (a48 b nn lk) ps cnt) oth cnt).length = (32 : Nat) → ∃ (y : Unit), decide (topF (sfoH i (a48 b nn lk) ps cnt) oth cnt = root) = ckA root i b nn lk ps oth cnt) ∧ (sfoB i ps cnt = false → ∃ (y : Unit), false = ckA root i b nn lk ps oth cnt)) (by kernel_rfl) ?_⟩
  simp only [imin, imax, decide_eq_true_eq, decide_eq_false_iff_not, Prod.forall, Prod.exists, exists_eq_left', exists_eq_left, exists_and_left, exists_and_right, exists_eq_right, exists_eq, exists_eq', true_and, and_true, forall_const, exists_const, eq_self, Bool.not_eq_true, Bool.not_eq_eq_eq_not, Bool.not_true, Bool.not_false, Value.slice.injEq, Option.getD_some, imp_self, implies_true, Option.some.injEq, Addr.mk.injEq, true_or, or_true, List.length_cons, List.length_nil, Nat.zero_add, Nat.reduceAdd]
  intro _ hlk _ _
  have C1 : sfoB i ps cnt = true → decide (topF (sfoH i (a48 b nn lk) ps cnt) oth cnt = root) = ckA root i b nn lk ps oth cnt := fun h => by unfold ckA; rw [h, Bool.true_and]
  have C2 : sfoB i ps cnt = false → false = ckA root i b nn lk ps oth cnt := fun h => by unfold ckA; rw [h, Bool.false_and]
  have hl : (a48 b nn lk).length ≤ 1000000 := by simp [a48, ei8_length, hlk]
  exact ⟨fun _ _ => ⟨⟨hl, fun _ _ => ⟨fun h _ _ => C1 h, C2⟩⟩, hl, fun _ _ => ⟨fun h _ _ => C1 h, C2⟩⟩, fun _ _ => ⟨hl, fun _ _ => ⟨fun h _ _ => C1 h, C2⟩⟩⟩
noncomputable def con_schecka : Con Xp.P FMp := ⟨27, sg_schecka, pr_schecka, ps_schecka, vc_ok (La := la_schecka) (Ca := ca_schecka) 300 (fn := Go.Proofs.Try.f27) (by kernel_rfl) (c := cd_schecka) (by kernel_rfl) (by kernel_rfl) (by kernel_rfl) (by kernel_rfl) (fun ⟨⟨root, ⟨⟩⟩, ⟨i, ⟨⟨b, ⟨nn, ⟨lk, ⟨⟩⟩⟩⟩, ⟨⟨⟨P, ⟨ps, pc⟩⟩, ⟨oth, ⟨cnt, ⟨⟩⟩⟩⟩, ⟨⟩⟩⟩⟩⟩ => vc_schecka root i b nn lk P ps pc oth cnt)⟩
noncomputable def cd_rprove : Code := (Go.Proofs.Try.f51.body).getD .skip
def sg_rprove : List Arg := [.ag [.rcs 1 32, .slr 2], .one (.int .i64)]
def pr_rprove : SgT FMp sg_rprove → List Prop
  | ((acc, ((A, (ou, c)), ())), (i, ())) => (fun (acc : List (Int × Int × List Int)) (A : Option Addr) (ou : List (Int × Int)) (c : Nat) (i : Int) => ([a64 acc, ∀ a ∈ acc, rg a.2.2] : List Prop)) acc A ou c i
def ps_rprove : SgT FMp sg_rprove → PS FMp
  | ((acc, ((A, (ou, c)), ())), (i, ())) => (fun (acc : List (Int × Int × List Int)) (A : Option Addr) (ou : List (Int × Int)) (c : Nat) (i : Int) => (⟨(Option Addr) × Nat × (List (List Int)) × (List Int) × Int × Int, fun y => [.ad y.1], fun y => .tup [.ag [.b (.cl (.sc 0 0 y.2.2.1.length y.2.1 false)), .b (.iz .u8 y.2.2.2.1 32), .b (.cl (.xv (.int .u64 (y.2.2.2.2.1))))], .one (.xv (.int .i64 y.2.2.2.2.2))], fun y => [.sl 0 (y.2.2.1.length) y.2.1 [.f 0 (y.2.2.1) (y.2.2.1.length)] 40 32], fun y => [paRes acc ou i y.2.2.1 y.2.2.2.1 y.2.2.2.2.1 y.2.2.2.2.2, y.2.2.2.1.length = 32, ∀ a ∈ y.2.2.1, a.length = 32]⟩ : PS FMp)) acc A ou c i
def la_rprove : SgT FMp sg_rprove → List (Nat × (SS FMp → HA FMp))
  | ((acc, ((A, (ou, c)), ())), (i, ())) => (fun (acc : List (Int × Int × List Int)) (A : Option Addr) (ou : List (Int × Int)) (c : Nat) (i : Int) => ([] : List (Nat × (SS FMp → HA FMp)))) acc A ou c i
def ca_rprove : SgT FMp sg_rprove → List (Nat × (SS FMp → HA FMp))
  | ((acc, ((A, (ou, c)), ())), (i, ())) => (fun (acc : List (Int × Int × List Int)) (A : Option Addr) (ou : List (Int × Int)) (c : Nat) (i : Int) => ([] : List (Nat × (SS FMp → HA FMp)))) acc A ou c i
theorem vc_rprove (acc : List (Int × Int × List Int)) (A : Option Addr) (ou : List (Int × Int)) (c : Nat) (i : Int) : Vc (vc (FM := FMp) Xp 46 [con_rmay6, con_rleaves, con_rroot, con_rproof] (la_rprove ((acc, ((A, (ou, c)), ())), (i, ()))) (ca_rprove ((acc, ((A, (ou, c)), ())), (i, ()))) [] [] [.cell 4 45, .tmp 5] sg_rprove pr_rprove ps_rprove cd_rprove 300 ((acc, ((A, (ou, c)), ())), (i, ()))) := by
  refine ⟨Eq.mpr (β := acc.length = (32 : Nat) → (∀ (a : Int × Int × List Int), List.Mem a acc → a.2.2.length = (32 : Nat)) → (∀ (a : Int × Int), a ∈ ou → True) → a64 acc → (∀ (a : Int × Int × List Int), a ∈ acc → rg a.2.2) → ∀ (b b : Nat), ou.length = ou.length ∧ a64 acc ∧ ∀ (y : Unit), ((!(decide (stE acc = (0 : Int)) && decide (ou.length ≤ (32 : Nat))) || decide (i < (0 : Int)) || decide ((32 : Int) ≤ i)) = true → ∃ (y : Option Addr × Nat × List (List Int) × List Int × Int × Int), Value.slice none (0 : Nat) (0 : Nat) = Value.slice y.1 y.snd.2.1.length y.2.1 ∧ List.replicate (32 : Nat) (0 : Int) = y.snd.snd.2.1 ∧ (32 : Nat) = (32 : Nat) ∧ (0 : Int) = y.snd.snd.snd.2.1 ∧ (2 : Int) = y.snd.snd.snd.2.2 ∧ y.1 = none ∧ y.snd.2.1.length = (0 : Nat) ∧ y.2.1 = (0 : Nat) ∧ y.snd.2.1 = [] ∧ y.snd.2.1.length = (0 : Nat) ∧ paRes acc ou i y.snd.2.1 y.snd.snd.2.1 y.snd.snd.snd.2.1 y.snd.snd.snd.2.2 ∧ y.snd.snd.2.1.length = (32 : Nat) ∧ ∀ (a : List Int), a ∈ y.snd.2.1 → a.length = (32 : Nat)) ∧ ((!(decide (stE acc = (0 : Int)) && decide (ou.length ≤ (32 : Nat))) || decide (i < (0 : Int)) || decide ((32 : Int) ≤ i)) = false → ou.length = ou.length ∧ (∀ (a : Int × Int × List Int), a ∈ acc → rg a.2.2) ∧ ou.length ≤ (4398046511104 : Nat) ∧ ∀ (y : Option Addr × Nat × Option Addr × Nat), (accL acc).length = (accL acc).length → (∀ (a : List Int), a ∈ accL acc → a.length = (32 : Nat)) → (outL ou).length = (outL ou).length → (∀ (a : List Int), a ∈ outL ou → a.length = (32 : Nat)) → (accL acc).length ≤ y.2.1 → (outL ou).length ≤ y.snd.2.2 → (accL acc).length = (accL acc).length ∧ (accL acc).length ≤ y.2.1 ∧ (∀ (a : List Int), a ∈ accL acc → rg a) ∧ ∀ (y_1 : Option Addr × Nat), (prfL (5 : Int) (accL acc) i).length = (prfL (5 : Int) (accL acc) i).length → (∀ (a : List Int), a ∈ prfL (5 : Int) (accL acc) i → a.length = (32 : Nat)) → (prfL (5 : Int) (accL acc) i).length ≤ y_1.2 → (∀ (a : List Int), a ∈ prfL (5 : Int) (accL acc) i → a.length = (32 : Nat)) → (outL ou).length = (outL ou).length ∧ (outL ou).length ≤ y.snd.2.2 ∧ (∀ (a : List Int), a ∈ outL ou → rg a) ∧ ∀ (y : Unit), (rootH (5 : Int) (outL ou)).length = (32 : Nat) → (rootH (5 : Int) (outL ou)).length = (32 : Nat) → ∀ (b : Nat), ∃ (y : Option Addr × Nat × List (List Int) × List Int × Int × Int), y_1.1 = y.1 ∧ (prfL (5 : Int) (accL acc) i).length = y.snd.2.1.length ∧ y_1.2 = y.2.1 ∧ rootH (5 : Int) (outL ou) = y.snd.snd.2.1 ∧ (32 : Nat) = (32 : Nat) ∧ IntKind.u64.wrap (↑(outL ou).length : Int) = y.snd.snd.snd.2.1 ∧ (0 : Int) = y.snd.snd.snd.2.2 ∧ y_1.1 = y.1 ∧ (prfL (5 : Int) (accL acc) i).length = y.snd.2.1.length ∧ y_1.2 = y.2.1 ∧ prfL (5 : Int) (accL acc) i = y.snd.2.1 ∧ (prfL (5 : Int) (accL acc) i).length = y.snd.2.1.length ∧ paRes acc ou i y.snd.2.1 y.snd.snd.2.1 y.snd.snd.snd.2.1 y.snd.snd.snd.2.2 ∧ y.snd.snd.2.1.length = (32 : Nat) ∧ ∀ (a : List Int), a ∈ y.snd.2.1 → a.length = (32 : Nat))) (by kernel_rfl) ?_⟩
  simp only [imin, imax, decide_eq_true_eq, decide_eq_false_iff_not, Prod.forall, Prod.exists, exists_eq_left', exists_eq_left, exists_and_left, exists_and_right, exists_eq_right, exists_eq, exists_eq', true_and, and_true, forall_const, exists_const, eq_self, Bool.not_eq_true, Bool.not_eq_eq_eq_not, Bool.not_true, Bool.not_false, Value.slice.injEq, Option.getD_some, imp_self, implies_true, Option.some.injEq, Addr.mk.injEq, true_or, or_true, List.length_cons, List.length_nil, Nat.zero_add, Nat.reduceAdd]
  intro hac hlk ha hg
  refine ⟨ha, fun h => ⟨none, 0, [], ⟨rfl, rfl, rfl⟩, rfl, rfl, rfl, rfl, rfl, .inr ⟨fun o => ?_, rfl, rfl, rfl, rfl⟩, by simp, by simp⟩, fun h => ?_⟩
  · obtain ⟨⟨o1, o2⟩, o3, o4⟩ := o
    simp only [o1, o2, decide_true, Bool.and_self, Bool.not_true, Bool.false_or, Bool.or_eq_true, decide_eq_true_eq] at h
    omega
  simp only [Bool.or_eq_false_iff, Bool.not_eq_false', Bool.and_eq_true, decide_eq_true_eq, decide_eq_false_iff_not] at h
  have hw : IntKind.u64.wrap ((outL ou).length : Int) = (ou.length : Int) := by rw [outL_length, wrap64, Int.emod_eq_of_lt (by omega) (by omega)]
  rw [hw]
  exact ⟨hg, by omega, fun q r _ _ hq hr => ⟨hq, accLg acc, fun z h32 hz _ => ⟨hr, outLg ou, fun hl _ => ⟨z, _, rfl, rfl, rfl, rfl, rfl, rfl, .inl ⟨⟨⟨h.1.1.1, h.1.1.2⟩, by omega, by omega⟩, rfl, rfl, rfl, rfl⟩, hl, h32⟩⟩⟩⟩
noncomputable def con_rprove : Con Xp.P FMp := ⟨51, sg_rprove, pr_rprove, ps_rprove, vc_ok (La := la_rprove) (Ca := ca_rprove) 300 (fn := Go.Proofs.Try.f51) (by kernel_rfl) (c := cd_rprove) (by kernel_rfl) (by kernel_rfl) (by kernel_rfl) (by kernel_rfl) (fun ⟨⟨acc, ⟨⟨A, ⟨ou, c⟩⟩, ⟨⟩⟩⟩, ⟨i, ⟨⟩⟩⟩ => vc_rprove acc A ou c i)⟩

end Go.Pw
end
section
/-
  Walks by computing. No condition.
-/
set_option linter.all false
set_option maxRecDepth 100000
set_option maxHeartbeats 1000000
namespace Go.Pw
open Go Go.Px Go.RowKit
attribute [local irreducible] shaF

/-- What entries say. -/
def ctH (l : List ((Option Addr × List Int × Nat) × List Int)) : List (List Int × List Int) := l.map fun a => (a.1.2.1, a.2)
def entB (i : Nat) (ps : List (List Int)) (x : List Int) (k : Nat) : List Int := if (i / 2 ^ k) % 2 = 0 then [1] ++ fldN i ps x k ++ ps.getD k (List.replicate 32 0) else [1] ++ ps.getD k (List.replicate 32 0) ++ fldN i ps x k
def ent (i : Nat) (ps : List (List Int)) (x : List Int) (k : Nat) : List Int × List Int := (entB i ps x k, fldN i ps x (k + 1))
theorem ctH_append (a b : List ((Option Addr × List Int × Nat) × List Int)) : ctH (a ++ b) = ctH a ++ ctH b := by simp [ctH]
theorem ctH_length (a : List ((Option Addr × List Int × Nat) × List Int)) : (ctH a).length = a.length := by simp [ctH]
theorem ctH_get (a : List ((Option Addr × List Int × Nat) × List Int)) {k : Nat} (h : k < a.length) : (ctH a)[k]? = some ((a.getD k ((none, [], 0), List.replicate 32 0)).1.2.1, (a.getD k ((none, [], 0), List.replicate 32 0)).2) := by
  rw [getD_lt h, ctH, List.getElem?_map, List.getElem?_eq_getElem h]; rfl
theorem BYH : Go.Proofs.Try.prog.types[87].bytes = 56 := by kernel_rfl


end Go.Pw
end
section
/-
  Walks by computing. No condition.
-/
set_option linter.all false
set_option maxRecDepth 100000
set_option maxHeartbeats 1000000
namespace Go.Pw
open Go Go.Px Go.RowKit
attribute [local irreducible] shaF

def accB (acc : List (Int × Int × List Int)) : List (List Int) := acc.map fun a => a48 a.1 a.2.1 a.2.2
def outB (ou : List (Int × Int)) : List (List Int) := ou.map fun o => e16 o.1 o.2
def lfE (b : List Int) : List Int × List Int := ([0] ++ b, leafF b)
def lfL (l : List (List Int)) : List (List Int × List Int) := l.map lfE
def enP (c : List (List Int)) (k : Nat) : List Int × List Int := ([1] ++ c.getD (2 * k) (List.replicate 32 0) ++ c.getD (2 * k + 1) (List.replicate 32 0), pr2 (c.getD (2 * k) (List.replicate 32 0)) (c.getD (2 * k + 1) (List.replicate 32 0)))
def enL (c : List (List Int)) (n : Nat) : List (List Int × List Int) := (List.range n).map (enP c)
/-- What is summed in a tree, below a level. -/
def prS (p : List (List Int)) : Nat → List (List Int × List Int)
  | 0 => []
  | t + 1 => prS p t ++ enL (lvl p t) ((lvl p t).length / 2)
def pdL (ls : List (List Int)) : List (List Int) := ls ++ List.replicate (32 - ls.length) (List.replicate 32 0)
def tpE (u v : List Int) (n : Int) : List (List Int × List Int) := [([1] ++ u ++ v, pairF u v), ([1] ++ pairF u v ++ cntF n, topF u v n)]
/-- What is known of a state. -/
def kn6 (acc : List (Int × Int × List Int)) (ou : List (Int × Int)) : List (List Int × List Int) :=
  lfL (accB acc ++ outB ou) ++ prS (pdL (accL acc)) 5 ++ prS (pdL (outL ou)) 5 ++ tpE (rootH 5 (accL acc)) (rootH 5 (outL ou)) ou.length
def knRes (acc : List (Int × Int × List Int)) (ou : List (Int × Int)) (c : List (List Int × List Int)) (ee : Int) : Prop := (st6 acc ou ∧ ee = 0 ∧ c = kn6 acc ou) ∨ (¬ st6 acc ou ∧ ee = 2 ∧ c = [])
def idT : List (Pc FMp) → Nat → Nat
  | [], _ => 0
  | .bk i _ t :: r, ty => bif Nat.beq t ty then i else idT r ty
  | _ :: r, ty => idT r ty
def addFz : List (Pc FMp) → List (Ce FMp) → List (Pc FMp)
  | [], _ => []
  | .fz _ ds :: r, d => .fz [] (ds ++ d) :: r
  | p :: r, d => p :: addFz r d
def addFl (m : List (Pc FMp)) (d : List (Ce FMp)) : List (Pc FMp) := (addFz m.reverse d).reverse
/-- The told list, the cell that holds it, and what is known of its slices. -/
def set5 : List (Pc FMp) → Nat → Nat → List ((Option Addr × List Int × Nat) × List Int) → List (Pc FMp)
  | [], _, _, _ => []
  | .sl i a b c e s :: r, n, q, l => (match c with
    | [.f 5 _ _] => .sl n l.length q [.f 5 l l.length] e s
    | c => .sl i a b c e s) :: set5 r n q l
  | .bk i c ty :: r, n, q, l => (bif Nat.beq ty 68 then .bk i [.b (.cl (.sc n 0 l.length q false))] ty else .bk i c ty) :: set5 r n q l
  | .fz _ _ :: r, n, q, l => .fz [] [[.f 5 l l.length]] :: set5 r n q l
  | p :: r, n, q, l => p :: set5 r n q l
def la_5 : List (Pc FMp) → List ((Option Addr × List Int × Nat) × List Int)
  | [] => []
  | .sl _ _ _ [.f 5 l _] _ _ :: _ => l
  | _ :: r => la_5 r
def la_id (S : SS FMp) (t : Nat) : Nat := match lookS S.T t with
  | some (.v (.one (.sc id _ _ _ _))) => id
  | some (.v (.one (.pt id _))) => id
  | _ => 0
def byH (l : List (Option Addr × List Int × Nat)) : List (List Int) := l.map fun a => a.2.1
/-- The second tree, gone through ahead of the first: no such way is meant. -/
def la_g (S : SS FMp) : Nat := bif (pcAt S.m (la_id S 11)).isSome && (pcAt S.m (la_id S 12)).isNone then 999999 else la_id S 14
def la_c (S : SS FMp) (id : Nat) : Nat := match pcAt S.m id with
  | some (_, p) => match p.ce with
    | [.f 0 _ n] => n
    | _ => 0
  | none => 0


def padL (e : Nat) (ls : List (List Int)) : List (List Int) := ls ++ List.replicate (2 ^ e - ls.length) (List.replicate 32 0)
theorem padL_length {e : Nat} {ls : List (List Int)} (h : ls.length ≤ 2 ^ e) : (padL e ls).length = 2 ^ e := by
  rw [padL, List.length_append, List.length_replicate]; omega
theorem xor_m2 (o : Nat) : (o ^^^ 1) % 2 = (o + 1) % 2 := by
  have h := Nat.testBit_xor o 1 0
  simp only [Nat.testBit_zero] at h
  rcases Nat.mod_two_eq_zero_or_one o with h1 | h1 <;> rcases Nat.mod_two_eq_zero_or_one (o ^^^ 1) with h2 | h2 <;> simp [h1, h2] at h <;> omega
theorem xor_even {o : Nat} (h : o % 2 = 0) : o ^^^ 1 = o + 1 := by
  have h1 : (o ^^^ 1) / 2 = o / 2 := by rw [Nat.xor_div_two]; simp
  have h2 : (o ^^^ 1) % 2 = (o + 1) % 2 := xor_m2 o
  omega
theorem xor_odd {o : Nat} (h : ¬ o % 2 = 0) : o ^^^ 1 = o - 1 := by
  have h1 : (o ^^^ 1) / 2 = o / 2 := by rw [Nat.xor_div_two]; simp
  have h2 : (o ^^^ 1) % 2 = (o + 1) % 2 := xor_m2 o
  omega
theorem pad_blk {e k m : Nat} {ls : List (List Int)} (h : ls.length ≤ 2 ^ e) (hm : m + 2 ^ k ≤ 2 ^ e) : ((padL e ls).drop m).take (2 ^ k) = padL k ((ls.drop m).take (2 ^ k)) := by
  rw [padL, padL, List.drop_append, List.take_append, List.drop_replicate, List.take_replicate, List.length_take, List.length_drop]
  congr 2
  omega
theorem rtR_succ {e : Nat} {ls : List (List Int)} : rtR (e + 1) ls = pr2 (rtR e (ls.take (2 ^ e))) (rtR e (ls.drop (2 ^ e))) := by
  rw [rtR]
  by_cases h : ls.length = 0
  · have : ls = [] := List.eq_nil_of_length_eq_zero h
    subst this; simp
  · rw [if_neg h]
    by_cases h1 : ls.length ≤ 2 ^ e
    · rw [if_pos h1, List.take_of_length_le h1, List.drop_eq_nil_of_le h1]
    · rw [if_neg h1]
theorem rtR_pad : ∀ (e : Nat) (ls : List (List Int)), ls.length ≤ 2 ^ e → rtR e (padL e ls) = rtR e ls
  | 0, ls, h => by
    match ls, h with
    | [], _ => rfl
    | [x], _ => rfl
  | e + 1, ls, h => by
    have hp : 2 ^ (e + 1) = 2 ^ e * 2 := Nat.pow_succ 2 e
    have e1 := pad_blk (e := e + 1) (k := e) (m := 0) h (by omega)
    have e2 := pad_blk (e := e + 1) (k := e) (m := 2 ^ e) h (by omega)
    rw [List.drop_zero, List.drop_zero] at e1
    have h3 : ((padL (e + 1) ls).drop (2 ^ e)).length = 2 ^ e := by rw [List.length_drop, padL_length h]; omega
    have h4 : (ls.drop (2 ^ e)).length ≤ 2 ^ e := by rw [List.length_drop]; omega
    rw [List.take_of_length_le (by omega), List.take_of_length_le h4] at e2
    rw [rtR_succ, rtR_succ, e1, e2, rtR_pad e _ (by rw [List.length_take]; omega), rtR_pad e _ h4]
theorem prfN_pad {e j : Nat} {ls : List (List Int)} (h : ls.length ≤ 2 ^ e) (hj : j < 2 ^ e) : prfN (padL e ls) j e = prfN ls j e := by
  refine List.map_congr_left fun d hd => ?_
  have hd : d < e := by simpa using hd
  have ho : j / 2 ^ d ^^^ 1 < 2 ^ (e - d) := by
    refine Nat.xor_lt_two_pow ?_ (Nat.one_lt_two_pow (by omega))
    rw [Nat.div_lt_iff_lt_mul (Nat.pow_pos (by omega)), ← Nat.pow_add, show e - d + d = e by omega]; exact hj
  have hm : (j / 2 ^ d ^^^ 1) * 2 ^ d + 2 ^ d ≤ 2 ^ e := by
    have : ((j / 2 ^ d ^^^ 1) + 1) * 2 ^ d ≤ 2 ^ (e - d) * 2 ^ d := Nat.mul_le_mul_right _ (Nat.succ_le_of_lt ho)
    rw [← Nat.pow_add, show e - d + d = e by omega, Nat.add_mul] at this
    omega
  rw [sib_lvl, sib_lvl, pad_blk h hm, rtR_pad _ _ (by rw [List.length_take]; omega)]
theorem blk_other {F : List (List Int)} {j m q : Nat} {x : List Int} (h : j < m ∨ m + q ≤ j) : ((F.set j x).drop m).take q = (F.drop m).take q := by
  refine List.ext_getElem? fun i => ?_
  simp only [List.getElem?_take, List.getElem?_drop]
  split
  · rw [List.getElem?_set_ne (by omega)]
  · rfl
theorem fld_rt {e j : Nat} {F : List (List Int)} {x : List Int} (hF : F.length = 2 ^ e) (hj : j < 2 ^ e) : ∀ k, k ≤ e → fldN j (prfN F j e) x k = rtR k (((F.set j x).drop (j / 2 ^ k * 2 ^ k)).take (2 ^ k))
  | 0, _ => by
    rw [fldN, rtR, Nat.pow_zero, Nat.div_one, Nat.mul_one]
    simp [List.getD_eq_getElem?_getD, List.getElem?_take, List.getElem?_drop, List.getElem?_set, hF, hj]
  | k + 1, hk => by
    have ih := fld_rt (x := x) hF hj k (by omega)
    have hp : 2 ^ (k + 1) = 2 ^ k * 2 := Nat.pow_succ 2 k
    have hd : j / 2 ^ (k + 1) = j / 2 ^ k / 2 := by rw [hp, Nat.div_div_eq_div_mul]
    have hq : 0 < 2 ^ k := Nat.pow_pos (by omega)
    have hs : (prfN F j e).getD k (List.replicate 32 0) = rtR k ((F.drop ((j / 2 ^ k ^^^ 1) * 2 ^ k)).take (2 ^ k)) := by
      rw [← sib_lvl, List.getD_eq_getElem?_getD, prfN, List.getElem?_map, List.getElem?_range (by omega)]; rfl
    have hlo : j / 2 ^ k * 2 ^ k ≤ j := Nat.div_mul_le_self _ _
    have hhi : j < j / 2 ^ k * 2 ^ k + 2 ^ k := by have := Nat.lt_div_mul_add (a := j) hq; omega
    rw [fldN, hs, ih, rtR_succ, List.take_take, List.drop_take, List.drop_drop, hd]
    generalize j / 2 ^ k = o at hlo hhi ⊢
    generalize 2 ^ k = q at hp hq hlo hhi ⊢
    rw [hp, show min q (q * 2) = q by omega, show q * 2 - q = q by omega]
    by_cases h2 : o % 2 = 0
    · rw [if_pos h2, xor_even h2, show o / 2 * (q * 2) = o * q by rw [Nat.mul_comm q 2, ← Nat.mul_assoc, show o / 2 * 2 = o by omega], show (o + 1) * q = o * q + q by rw [Nat.add_mul, Nat.one_mul]]
      rw [blk_other (m := o * q + q) (q := q) (.inl hhi)]
    · have hob : o / 2 * (q * 2) = (o - 1) * q := by rw [Nat.mul_comm q 2, ← Nat.mul_assoc, show o / 2 * 2 = o - 1 by omega]
      have hoc : (o - 1) * q + q = o * q := by rw [show o * q = (o - 1 + 1) * q by rw [show o - 1 + 1 = o by omega], Nat.add_mul, Nat.one_mul]
      rw [if_neg h2, xor_odd h2, hob, hoc, blk_other (m := (o - 1) * q) (q := q) (.inr (by omega))]
theorem fld_all {e j : Nat} {F : List (List Int)} {x : List Int} (hF : F.length = 2 ^ e) (hj : j < 2 ^ e) : fldN j (prfN F j e) x e = rtR e (F.set j x) := by
  rw [fld_rt hF hj e (Nat.le_refl _), Nat.div_eq_of_lt hj, Nat.zero_mul, List.drop_zero, List.take_of_length_le (by rw [List.length_set]; omega)]

theorem BY4 : Go.Proofs.Try.prog.types[83].bytes = 24 := by kernel_rfl
theorem halfL_even (e e' : List Int) : ∀ l : List (List Int), l.length % 2 = 0 → halfL e l = halfL e' l
  | [], _ => rfl
  | [_], h => by simp at h
  | x :: y :: r, h => by rw [halfL, halfL, halfL_even e e' r (by simp at h; omega)]
theorem lvl32 {p : List (List Int)} (h : p.length = 32) : ∀ t, t ≤ 5 → (lvl p t).length = 2 ^ (5 - t)
  | 0, _ => h
  | t + 1, ht => by
    rw [lvl, halfL_length, lvl32 h t (by omega), show 5 - t = (5 - (t + 1)) + 1 by omega, Nat.pow_succ]
    omega
theorem enL_length (c : List (List Int)) (n : Nat) : (enL c n).length = n := by simp [enL]
theorem enL_succ (c : List (List Int)) (n : Nat) : enL c (n + 1) = enL c n ++ [enP c n] := by simp [enL, List.range_succ]
theorem pdL_length {ls : List (List Int)} (h : ls.length ≤ 32) : (pdL ls).length = 32 := by
  rw [pdL, List.length_append, List.length_replicate]; omega
theorem pd_root {ls : List (List Int)} (h : ls.length ≤ 32) : lvl (pdL ls) 5 = [rootH 5 ls] := by
  have h1 := lvl_one 5 (pdL ls) (by rw [pdL_length h]; decide) (by rw [pdL_length h]; decide)
  rw [h1, root5 h]
  congr 1
  exact rtR_pad 5 ls h
theorem accB_length (acc : List (Int × Int × List Int)) : (accB acc).length = acc.length := by simp [accB]
theorem outB_length (ou : List (Int × Int)) : (outB ou).length = ou.length := by simp [outB]
theorem t5_of {t k : Nat} (ht : t ≤ 5) (hk : k = 2 ^ (5 - t)) : (k ≤ 1 → t = 5) ∧ (1 < k → t < 5 ∧ k / 2 = 2 ^ (5 - (t + 1)) ∧ k % 2 = 0 ∧ k ≤ 32) := by
  subst hk
  match t, ht with
  | 0, _ | 1, _ | 2, _ | 3, _ | 4, _ | 5, _ => decide
theorem stp0 {n : Nat} {c : List (List Int)} (hc : n ≤ c.length) (h2 : n % 2 = 0) {h : Nat} (hh : 2 * h + 1 < n) : (itN (stp [] n) h c).getD (2 * h) (List.replicate 32 0) = (c.take n).getD (2 * h) (List.replicate 32 0) ∧ (itN (stp [] n) h c).getD (2 * h + 1) (List.replicate 32 0) = (c.take n).getD (2 * h + 1) (List.replicate 32 0) := by
  obtain ⟨-, e⟩ := stp_getD (e := []) hc h (by omega)
  have t1 : ∀ j, j < n → (c.take n).getD j (List.replicate 32 0) = c.getD j (List.replicate 32 0) := fun j hj => by simp [List.getD_eq_getElem?_getD, List.getElem?_take, hj]
  rw [e, e, if_neg (by omega), if_neg (by omega), t1 _ (by omega), t1 _ (by omega)]
  exact ⟨rfl, rfl⟩
theorem stp1 {n : Nat} {c : List (List Int)} (hc : n ≤ c.length) {h : Nat} (hh : 2 * h + 1 < n) : itN (stp [] n) (h + 1) c = (itN (stp [] n) h c).set h (pr2 ((itN (stp [] n) h c).getD (2 * h) (List.replicate 32 0)) ((itN (stp [] n) h c).getD (2 * h + 1) (List.replicate 32 0))) := by
  rw [itN, stp, if_pos hh]
theorem stp_lvl {p c : List (List Int)} {t k : Nat} (hp : p.length = 32) (ht : t < 5) (hk : k = 2 ^ (5 - t)) (hc : k ≤ c.length) (h : c.take k = lvl p t) : (itN (stp [] k) (k / 2) c).take (k / 2) = lvl p (t + 1) := by
  have h2 := (t5_of (by omega) hk).2 (by subst hk; exact Nat.one_lt_two_pow (by omega))
  rw [take_stp hc (by omega), h, lvl]
  exact halfL_even _ _ _ (by rw [lvl32 hp t (by omega), ← hk]; exact h2.2.2.1)
noncomputable def cd_spaired : Code := (Go.Proofs.Try.f92.body).getD .skip
def sg_spaired : List Arg := [.ag [.arr .u8 32], .ag [.arr .u8 32]]
def pr_spaired : SgT FMp sg_spaired → List Prop
  | ((u, ()), ((v, ()), ())) => (fun (u v : List Int) => ([] : List Prop)) u v
def ps_spaired : SgT FMp sg_spaired → PS FMp
  | ((u, ()), ((v, ()), ())) => (fun (u v : List Int) => (⟨(Option Addr) × Nat, fun y => [.ad y.1], fun y => .v (.ag [.b (.cl (.sc 0 0 ([1] ++ u ++ v).length y.2 false)), .b (.iz .u8 (pairF u v) 32)]), fun y => [.sl 0 ([1] ++ u ++ v).length y.2 [.b (.iz .u8 ([1] ++ u ++ v) ([1] ++ u ++ v).length)] 5 1], fun y => [(pairF u v).length = 32, ([1] ++ u ++ v).length = 65]⟩ : PS FMp)) u v
def la_spaired : SgT FMp sg_spaired → List (Nat × (SS FMp → HA FMp))
  | ((u, ()), ((v, ()), ())) => (fun (u v : List Int) => ([] : List (Nat × (SS FMp → HA FMp)))) u v
def ca_spaired : SgT FMp sg_spaired → List (Nat × (SS FMp → HA FMp))
  | ((u, ()), ((v, ()), ())) => (fun (u v : List Int) => ([] : List (Nat × (SS FMp → HA FMp)))) u v
theorem vc_spaired (u v : List Int) : Vc (vc (FM := FMp) Xp 11 [con_concat_bytes, con_sum] (la_spaired ((u, ()), ((v, ()), ()))) (ca_spaired ((u, ()), ((v, ()), ()))) [] [91] [.cell 4 87] sg_spaired pr_spaired ps_spaired cd_spaired 300 ((u, ()), ((v, ()), ()))) := by
  refine ⟨Eq.mpr (β := u.length = (32 : Nat) → v.length = (32 : Nat) → ∀ (b b_1 b_2 b_3 b_4 : Nat), (3 : Nat) = (3 : Nat) ∧ (3 : Nat) = [(some (Addr.mk b_3 (0 : Nat) none), [(1 : Int)], (1 : Nat)), (some (Addr.mk b (0 : Nat) none), u, (32 : Nat)), (some (Addr.mk b_1 (0 : Nat) none), v, (32 : Nat))].length ∧ (1 : Nat) = (1 : Nat) ∧ (32 : Nat) = (32 : Nat) ∧ (32 : Nat) = (32 : Nat) ∧ (catL [(some (Addr.mk b_3 (0 : Nat) none), [(1 : Int)], (1 : Nat)), (some (Addr.mk b (0 : Nat) none), u, (32 : Nat)), (some (Addr.mk b_1 (0 : Nat) none), v, (32 : Nat))]).length ≤ (140737488355328 : Nat) ∧ [(some (Addr.mk b_3 (0 : Nat) none), [(1 : Int)], (1 : Nat)), (some (Addr.mk b (0 : Nat) none), u, (32 : Nat)), (some (Addr.mk b_1 (0 : Nat) none), v, (32 : Nat))].length ≤ (1000 : Nat) ∧ ∀ (y : Option Addr × Nat), (catL [(some (Addr.mk b_3 (0 : Nat) none), [(1 : Int)], (1 : Nat)), (some (Addr.mk b (0 : Nat) none), u, (32 : Nat)), (some (Addr.mk b_1 (0 : Nat) none), v, (32 : Nat))]).length = (catL [(some (Addr.mk b_3 (0 : Nat) none), [(1 : Int)], (1 : Nat)), (some (Addr.mk b (0 : Nat) none), u, (32 : Nat)), (some (Addr.mk b_1 (0 : Nat) none), v, (32 : Nat))]).length → (catL [(some (Addr.mk b_3 (0 : Nat) none), [(1 : Int)], (1 : Nat)), (some (Addr.mk b (0 : Nat) none), u, (32 : Nat)), (some (Addr.mk b_1 (0 : Nat) none), v, (32 : Nat))]).length ≤ y.2 → ∀ (b_5 : Nat), (catL [(some (Addr.mk b_3 (0 : Nat) none), [(1 : Int)], (1 : Nat)), (some (Addr.mk b (0 : Nat) none), u, (32 : Nat)), (some (Addr.mk b_1 (0 : Nat) none), v, (32 : Nat))]).length = (catL [(some (Addr.mk b_3 (0 : Nat) none), [(1 : Int)], (1 : Nat)), (some (Addr.mk b (0 : Nat) none), u, (32 : Nat)), (some (Addr.mk b_1 (0 : Nat) none), v, (32 : Nat))]).length ∧ (catL [(some (Addr.mk b_3 (0 : Nat) none), [(1 : Int)], (1 : Nat)), (some (Addr.mk b (0 : Nat) none), u, (32 : Nat)), (some (Addr.mk b_1 (0 : Nat) none), v, (32 : Nat))]).length ≤ (140737488355000 : Nat) ∧ ∀ (y_1 : Unit), (shaF (catL [(some (Addr.mk b_3 (0 : Nat) none), [(1 : Int)], (1 : Nat)), (some (Addr.mk b (0 : Nat) none), u, (32 : Nat)), (some (Addr.mk b_1 (0 : Nat) none), v, (32 : Nat))])).length = (32 : Nat) → (shaF (catL [(some (Addr.mk b_3 (0 : Nat) none), [(1 : Int)], (1 : Nat)), (some (Addr.mk b (0 : Nat) none), u, (32 : Nat)), (some (Addr.mk b_1 (0 : Nat) none), v, (32 : Nat))])).length = (32 : Nat) → ∃ (y_2 : Option Addr × Nat), y.1 = y_2.1 ∧ (catL [(some (Addr.mk b_3 (0 : Nat) none), [(1 : Int)], (1 : Nat)), (some (Addr.mk b (0 : Nat) none), u, (32 : Nat)), (some (Addr.mk b_1 (0 : Nat) none), v, (32 : Nat))]).length = ([(1 : Int)] ++ u ++ v).length ∧ y.2 = y_2.2 ∧ shaF (catL [(some (Addr.mk b_3 (0 : Nat) none), [(1 : Int)], (1 : Nat)), (some (Addr.mk b (0 : Nat) none), u, (32 : Nat)), (some (Addr.mk b_1 (0 : Nat) none), v, (32 : Nat))]) = pairF u v ∧ (32 : Nat) = (32 : Nat) ∧ y.1 = y_2.1 ∧ (catL [(some (Addr.mk b_3 (0 : Nat) none), [(1 : Int)], (1 : Nat)), (some (Addr.mk b (0 : Nat) none), u, (32 : Nat)), (some (Addr.mk b_1 (0 : Nat) none), v, (32 : Nat))]).length = ([(1 : Int)] ++ u ++ v).length ∧ y.2 = y_2.2 ∧ catL [(some (Addr.mk b_3 (0 : Nat) none), [(1 : Int)], (1 : Nat)), (some (Addr.mk b (0 : Nat) none), u, (32 : Nat)), (some (Addr.mk b_1 (0 : Nat) none), v, (32 : Nat))] = [(1 : Int)] ++ u ++ v ∧ (catL [(some (Addr.mk b_3 (0 : Nat) none), [(1 : Int)], (1 : Nat)), (some (Addr.mk b (0 : Nat) none), u, (32 : Nat)), (some (Addr.mk b_1 (0 : Nat) none), v, (32 : Nat))]).length = ([(1 : Int)] ++ u ++ v).length ∧ (pairF u v).length = (32 : Nat) ∧ ([(1 : Int)] ++ u ++ v).length = (65 : Nat)) (by kernel_rfl) ?_⟩
  simp only [imin, imax, decide_eq_true_eq, decide_eq_false_iff_not, Prod.forall, Prod.exists, exists_eq_left', exists_eq_left, exists_and_left, exists_and_right, exists_eq_right, exists_eq, exists_eq', true_and, and_true, forall_const, exists_const, eq_self, Bool.not_eq_true, Bool.not_eq_eq_eq_not, Bool.not_true, Bool.not_false, Value.slice.injEq, Option.getD_some, imp_self, implies_true, Option.some.injEq, Addr.mk.injEq, true_or, or_true, List.length_cons, List.length_nil, Nat.zero_add, Nat.reduceAdd]
  intro hu hv b b1 b3
  have hc : ∀ (A B C : Option Addr) (k m n : Nat), catL [(A, [1], k), (B, u, m), (C, v, n)] = [1] ++ u ++ v := by intros; simp [catL]
  simp only [hc]
  have hl : ([1] ++ u ++ v : List Int).length = 65 := by simp; omega
  refine ⟨by omega, by omega, fun _ _ => ⟨by omega, fun hs _ => ?_⟩⟩
  simp only [true_and, and_true]
  exact ⟨rfl, hs, hl⟩
noncomputable def con_spaired : Con Xp.P FMp := ⟨92, sg_spaired, pr_spaired, ps_spaired, vc_ok (La := la_spaired) (Ca := ca_spaired) 300 (fn := Go.Proofs.Try.f92) (by kernel_rfl) (c := cd_spaired) (by kernel_rfl) (by kernel_rfl) (by kernel_rfl) (by kernel_rfl) (fun ⟨⟨u, ⟨⟩⟩, ⟨⟨v, ⟨⟩⟩, ⟨⟩⟩⟩ => vc_spaired u v)⟩

end Go.Pw
end
section
/-
  Walks by computing. No condition.
-/
set_option linter.all false
set_option maxRecDepth 100000
set_option maxHeartbeats 1000000
namespace Go.Pw
open Go Go.Px Go.RowKit
attribute [local irreducible] shaF


theorem prS_length {p : List (List Int)} (hp : p.length = 32) : ∀ t, t ≤ 5 → (prS p t).length + 2 ^ (5 - t) = 32
  | 0, _ => by simp [prS]
  | t + 1, h => by
    have := prS_length hp t (by omega)
    rw [prS, List.length_append, enL_length, lvl32 hp t (by omega)]
    rw [show 5 - t = (5 - (t + 1)) + 1 by omega, Nat.pow_succ] at this ⊢
    omega
theorem ctH1 (A : Option Addr) (b : List Int) (q : Nat) (s : List Int) : ctH [((A, b, q), s)] = [(b, s)] := rfl

end Go.Pw
end
section
/-
  Walks by computing. No condition.
-/
set_option linter.all false
set_option maxRecDepth 100000
set_option maxHeartbeats 1000000
namespace Go.Pw
open Go Go.Px Go.RowKit
attribute [local irreducible] shaF


theorem lfL_length (l : List (List Int)) : (lfL l).length = l.length := by simp [lfL]
theorem a48_length {b n : Int} {l : List Int} (h : l.length = 32) : (a48 b n l).length = 48 := by simp [a48, ei8_length, h]

end Go.Pw
end
