/-
  Walks by computing. No condition.
-/
import Derived.Test.YthglpoebfepaiaaOr2
set_option linter.all false
set_option maxRecDepth 100000
set_option maxHeartbeats 1000000
namespace Go.Pw
open Go Go.Px Go.RowKit
attribute [local irreducible] shaF

noncomputable def cd_lawNil : Code := (Go.Proofs.Try.f4.body).getD .skip
def sg_lawNil : List Arg := [.one (.sli .u8)]
def pr_lawNil : SgT FMp sg_lawNil → List Prop
  | ((A, (b, c)), ()) => (fun (A : Option Addr) (b : List Int) (c : Nat) => ([b.length ≤ 140737488355000, ∀ j, 0 ≤ b.getD j 0 ∧ b.getD j 0 < 256] : List Prop)) A b c
def ps_lawNil : SgT FMp sg_lawNil → PS FMp
  | ((A, (b, c)), ()) => (fun (A : Option Addr) (b : List Int) (c : Nat) => (⟨Unit, fun y => [], fun y => one (.bool (true)), fun y => [], fun y => []⟩ : PS FMp)) A b c
def la_lawNil : SgT FMp sg_lawNil → List (Nat × (SS FMp → HA FMp))
  | ((A, (b, c)), ()) => (fun (A : Option Addr) (b : List Int) (c : Nat) => ([] : List (Nat × (SS FMp → HA FMp)))) A b c
def ca_lawNil : SgT FMp sg_lawNil → List (Nat × (SS FMp → HA FMp))
  | ((A, (b, c)), ()) => (fun (A : Option Addr) (b : List Int) (c : Nat) => ([] : List (Nat × (SS FMp → HA FMp)))) A b c
theorem vc_lawNil (A : Option Addr) (b : List Int) (c : Nat) : Vc (vc (FM := FMp) Xp 47 [con_rsum, con_anch16] (la_lawNil ((A, (b, c)), ())) (ca_lawNil ((A, (b, c)), ())) [] [6, 7, 18, 11, 16, 27, 47, 9, 17] [.tmp 2] sg_lawNil pr_lawNil ps_lawNil cd_lawNil 300 ((A, (b, c)), ())) := by
  refine ⟨Eq.mpr (β := (A.isNone = true → b = []) → b.length ≤ (140737488355000 : Nat) → (∀ (j : Nat), (0 : Int) ≤ b.getD j (0 : Int) ∧ b.getD j (0 : Int) < (256 : Int)) → ∀ (b_1 b_2 : Nat), b.length = b.length ∧ b.length ≤ (140737488355000 : Nat) ∧ (∀ (j : Nat), (0 : Int) ≤ b.getD j (0 : Int) ∧ b.getD j (0 : Int) < (256 : Int)) ∧ ∀ (y : Unit), (shaF b).length = (32 : Nat) → (shaF b).length = (32 : Nat) → ∀ (b : Nat) (y : Unit), ((true && decide ((1 : Int) = (1 : Int))) = true → ∀ (b : Nat), ((decide ((1 : Int) = (1 : Int)) || false) = true → (decide ((0 : Int) = (0 : Int)) = true → ∃ (y : Unit), true = true) ∧ (decide ((0 : Int) = (0 : Int)) = false → ∃ (y : Unit), false = true)) ∧ ((decide ((1 : Int) = (1 : Int)) || false) = false → ∃ (y : Unit), false = true)) ∧ ((true && decide ((1 : Int) = (1 : Int))) = false → ∃ (y : Unit), false = true)) (by kernel_rfl) ?_⟩
  simp only [imin, imax, decide_eq_true_eq, decide_eq_false_iff_not, Prod.forall, Prod.exists, exists_eq_left', exists_eq_left, exists_and_left, exists_and_right, exists_eq_right, exists_eq, exists_eq', true_and, and_true, forall_const, exists_const, eq_self, Bool.not_eq_true, Bool.not_eq_eq_eq_not, Bool.not_true, Bool.not_false, Value.slice.injEq, Option.getD_some, imp_self, implies_true, Option.some.injEq, Addr.mk.injEq, true_or, or_true, List.length_cons, List.length_nil, Nat.zero_add, Nat.reduceAdd]
  intro _ h1 h2
  exact ⟨h1, h2, fun _ _ => by simp⟩
noncomputable def con_lawNil : Con Xp.P FMp := ⟨4, sg_lawNil, pr_lawNil, ps_lawNil, vc_ok (La := la_lawNil) (Ca := ca_lawNil) 300 (fn := Go.Proofs.Try.f4) (by kernel_rfl) (c := cd_lawNil) (by kernel_rfl) (by kernel_rfl) (by kernel_rfl) (by kernel_rfl) (fun ⟨⟨A, ⟨b, c⟩⟩, ⟨⟩⟩ => vc_lawNil A b c)⟩
theorem XpP : Xp.P = Go.Proofs.Try.prog := by kernel_rfl
theorem law_lawNil (W : World) (A : Option Addr) (b : List Int) (c : Nat) (hA : A.isNone = true → b = []) (hR : Rd W A (iv .u8 b ++ [])) (h1 : b.length ≤ 140737488355000) (h2 : ∀ j, 0 ≤ b.getD j 0 ∧ b.getD j 0 < 256) : Calls Go.Proofs.Try.prog 4 #[.slice A b.length c] W (fun e w' => e = .returned (.bool true) ∧ Hp no W w' []) := by
  have hy : All (sgHy (FM := FMp) sg_lawNil ((A, (b, c)), ())) := ⟨hA, trivial⟩
  have hrk : ROk (FM := FMp) (sgBd (FM := FMp) sg_lawNil ((A, (b, c)), ()) 0).1 W (sgBd (FM := FMp) sg_lawNil ((A, (b, c)), ()) 0).2 := ⟨⟨hR, trivial⟩, trivial⟩
  have hpr : All (pr_lawNil ((A, (b, c)), ())) := ⟨h1, h2, trivial⟩
  have h0 : Calls Xp.P 4 #[.slice A b.length c] W ((ps_lawNil ((A, (b, c)), ())).R no W) := con_lawNil.ok W ((A, (b, c)), ()) hy hrk hpr
  have h1 : Calls Xp.P 4 #[.slice A b.length c] W (fun e w' => e = .returned (.bool true) ∧ Hp no W w' []) := h0.mono fun e w' h => by
    obtain ⟨_, h1, _, _, h2, _⟩ := h
    exact ⟨h1, h2⟩
  rw [XpP] at h1
  exact h1

end Go.Pw
