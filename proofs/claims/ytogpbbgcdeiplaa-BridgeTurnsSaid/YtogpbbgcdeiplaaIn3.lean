/-
  Walks by computing. No condition.
-/
import Derived.Test.YtogpbbgcdeiplaaIn2
set_option linter.all false
set_option maxRecDepth 100000
set_option maxHeartbeats 1000000
namespace Go.Pw
open Go Go.Px Go.RowKit

theorem BYd : Go.Proofs.Try.prog.types[153].bytes = 32 := by kernel_rfl
theorem BYs : Go.Proofs.Try.prog.types[83].bytes = 24 := by kernel_rfl
noncomputable def cd_dclone : Code := (Go.Proofs.Try.f129.body).getD .skip
def sg_dclone : List Arg := [.one (.slr 6)]
def pr_dclone : SgT FMp sg_dclone → List Prop
  | ((A, (qs, c)), ()) => (fun (A : Option Addr) (qs : List Dly) (c : Nat) => ([qs.length ≤ 4096, A = none → qs = []] : List Prop)) A qs c
def ps_dclone : SgT FMp sg_dclone → PS FMp
  | ((A, (qs, c)), ()) => (fun (A : Option Addr) (qs : List Dly) (c : Nat) => (⟨(Option Addr) × Nat, fun y => [.ad y.1], fun y => .v (.one (.sc 0 0 qs.length y.2 false)), fun y => [.sl 0 qs.length y.2 [.f 6 qs qs.length] 153 2], fun y => []⟩ : PS FMp)) A qs c
def la_dclone : SgT FMp sg_dclone → List (Nat × (SS FMp → HA FMp))
  | ((A, (qs, c)), ()) => (fun (A : Option Addr) (qs : List Dly) (c : Nat) => ([] : List (Nat × (SS FMp → HA FMp)))) A qs c
def ca_dclone : SgT FMp sg_dclone → List (Nat × (SS FMp → HA FMp))
  | ((A, (qs, c)), ()) => (fun (A : Option Addr) (qs : List Dly) (c : Nat) => ([] : List (Nat × (SS FMp → HA FMp)))) A qs c
theorem vc_dclone (A : Option Addr) (qs : List Dly) (c : Nat) : Vc (vc (FM := FMp) Xp 8 [] (la_dclone ((A, (qs, c)), ())) (ca_dclone ((A, (qs, c)), ())) [] [] [.tmp 2] sg_dclone pr_dclone ps_dclone cd_dclone 300 ((A, (qs, c)), ())) := by
  refine ⟨Eq.mpr (β := (∀ (a : Int × Option Addr × List Int × Nat), a ∈ qs → True) → qs.length ≤ (4096 : Nat) → (A = none → qs = []) → (A.isNone = true → ∃ (y : Option Addr × Nat), Value.slice none (0 : Nat) (0 : Nat) = Value.slice y.1 qs.length y.2 ∧ y.1 = none ∧ qs.length = (0 : Nat) ∧ y.2 = (0 : Nat) ∧ qs = [] ∧ qs.length = (0 : Nat)) ∧ (A.isNone = false → ∀ (b : Nat), (0 : Nat) = (0 : Nat) ∧ (0 : Nat) = (0 : Nat) ∧ qs.length = qs.length ∧ ((0 : Nat) + qs.length) * Proofs.Try.prog.types[(153 : Nat)].bytes ≤ (140737488355328 : Nat) ∧ ∀ (A : Option Addr) (q : Nat), (0 : Nat) + qs.length ≤ q → ∃ (y : Option Addr × Nat), A = y.1 ∧ (0 : Nat) + qs.length = qs.length ∧ q = y.2 ∧ A = y.1 ∧ (0 : Nat) + qs.length = qs.length ∧ q = y.2 ∧ [] ++ qs = qs ∧ (0 : Nat) + qs.length = qs.length)) (by kernel_rfl) ?_⟩
  simp only [imin, imax, decide_eq_true_eq, decide_eq_false_iff_not, Prod.forall, Prod.exists, exists_eq_left', exists_eq_left, exists_and_left, exists_and_right, exists_eq_right, exists_eq, exists_eq', true_and, and_true, forall_const, exists_const, eq_self, Bool.not_eq_true, Bool.not_eq_eq_eq_not, Bool.not_true, Bool.not_false, Value.slice.injEq, Option.getD_some, imp_self, implies_true, Option.some.injEq, Addr.mk.injEq, true_or, or_true, List.length_cons, List.length_nil, Nat.zero_add, Nat.reduceAdd]
  intro hn hA
  refine ⟨fun h => ?_, fun h => ⟨by rw [BYd]; omega, fun q hq => rfl⟩⟩
  have := hA (Option.isNone_iff_eq_none.1 h)
  subst this
  exact ⟨none, 0, ⟨rfl, rfl, rfl⟩, rfl, rfl, rfl, rfl, rfl⟩
noncomputable def con_dclone : Con Xp.P FMp := ⟨129, sg_dclone, pr_dclone, ps_dclone, vc_ok (La := la_dclone) (Ca := ca_dclone) 300 (fn := Go.Proofs.Try.f129) (by kernel_rfl) (c := cd_dclone) (by kernel_rfl) (by kernel_rfl) (by kernel_rfl) (by kernel_rfl) (fun ⟨⟨A, ⟨qs, c⟩⟩, ⟨⟩⟩ => vc_dclone A qs c)⟩
noncomputable def cd_lclone : Code := (Go.Proofs.Try.f130.body).getD .skip
def sg_lclone : List Arg := [.one (.slr 4)]
def pr_lclone : SgT FMp sg_lclone → List Prop
  | ((A, (qs, c)), ()) => (fun (A : Option Addr) (qs : List Bys) (c : Nat) => ([qs.length ≤ 4096, A = none → qs = []] : List Prop)) A qs c
def ps_lclone : SgT FMp sg_lclone → PS FMp
  | ((A, (qs, c)), ()) => (fun (A : Option Addr) (qs : List Bys) (c : Nat) => (⟨(Option Addr) × Nat, fun y => [.ad y.1], fun y => .v (.one (.sc 0 0 qs.length y.2 false)), fun y => [.sl 0 qs.length y.2 [.f 4 qs qs.length] 83 1], fun y => []⟩ : PS FMp)) A qs c
def la_lclone : SgT FMp sg_lclone → List (Nat × (SS FMp → HA FMp))
  | ((A, (qs, c)), ()) => (fun (A : Option Addr) (qs : List Bys) (c : Nat) => ([] : List (Nat × (SS FMp → HA FMp)))) A qs c
def ca_lclone : SgT FMp sg_lclone → List (Nat × (SS FMp → HA FMp))
  | ((A, (qs, c)), ()) => (fun (A : Option Addr) (qs : List Bys) (c : Nat) => ([] : List (Nat × (SS FMp → HA FMp)))) A qs c
theorem vc_lclone (A : Option Addr) (qs : List Bys) (c : Nat) : Vc (vc (FM := FMp) Xp 8 [] (la_lclone ((A, (qs, c)), ())) (ca_lclone ((A, (qs, c)), ())) [] [] [.tmp 2] sg_lclone pr_lclone ps_lclone cd_lclone 300 ((A, (qs, c)), ())) := by
  refine ⟨Eq.mpr (β := (∀ (a : Option Addr × List Int × Nat), a ∈ qs → True) → qs.length ≤ (4096 : Nat) → (A = none → qs = []) → (A.isNone = true → ∃ (y : Option Addr × Nat), Value.slice none (0 : Nat) (0 : Nat) = Value.slice y.1 qs.length y.2 ∧ y.1 = none ∧ qs.length = (0 : Nat) ∧ y.2 = (0 : Nat) ∧ qs = [] ∧ qs.length = (0 : Nat)) ∧ (A.isNone = false → ∀ (b : Nat), (0 : Nat) = (0 : Nat) ∧ (0 : Nat) = (0 : Nat) ∧ qs.length = qs.length ∧ ((0 : Nat) + qs.length) * Proofs.Try.prog.types[(83 : Nat)].bytes ≤ (140737488355328 : Nat) ∧ ∀ (A : Option Addr) (q : Nat), (0 : Nat) + qs.length ≤ q → ∃ (y : Option Addr × Nat), A = y.1 ∧ (0 : Nat) + qs.length = qs.length ∧ q = y.2 ∧ A = y.1 ∧ (0 : Nat) + qs.length = qs.length ∧ q = y.2 ∧ [] ++ qs = qs ∧ (0 : Nat) + qs.length = qs.length)) (by kernel_rfl) ?_⟩
  simp only [imin, imax, decide_eq_true_eq, decide_eq_false_iff_not, Prod.forall, Prod.exists, exists_eq_left', exists_eq_left, exists_and_left, exists_and_right, exists_eq_right, exists_eq, exists_eq', true_and, and_true, forall_const, exists_const, eq_self, Bool.not_eq_true, Bool.not_eq_eq_eq_not, Bool.not_true, Bool.not_false, Value.slice.injEq, Option.getD_some, imp_self, implies_true, Option.some.injEq, Addr.mk.injEq, true_or, or_true, List.length_cons, List.length_nil, Nat.zero_add, Nat.reduceAdd]
  intro hn hA
  refine ⟨fun h => ?_, fun h => ⟨by rw [BYs]; omega, fun q hq => rfl⟩⟩
  have := hA (Option.isNone_iff_eq_none.1 h)
  subst this
  exact ⟨none, 0, ⟨rfl, rfl, rfl⟩, rfl, rfl, rfl, rfl, rfl⟩
noncomputable def con_lclone : Con Xp.P FMp := ⟨130, sg_lclone, pr_lclone, ps_lclone, vc_ok (La := la_lclone) (Ca := ca_lclone) 300 (fn := Go.Proofs.Try.f130) (by kernel_rfl) (c := cd_lclone) (by kernel_rfl) (by kernel_rfl) (by kernel_rfl) (by kernel_rfl) (fun ⟨⟨A, ⟨qs, c⟩⟩, ⟨⟩⟩ => vc_lclone A qs c)⟩

end Go.Pw
