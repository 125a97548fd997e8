/-
  Walks by computing. No condition.
-/
import Derived.Test.YthglpoebfepaiaaSa6
set_option linter.all false
set_option maxRecDepth 100000
set_option maxHeartbeats 1000000
namespace Go.Pw
open Go Go.Px Go.RowKit
attribute [local irreducible] shaF

def rg (l : List Int) : Prop := ∀ j, 0 ≤ l.getD j 0 ∧ l.getD j 0 < 256
theorem rg_sha (x : List Int) : rg (shaF x) := get_of_mem (p := fun x => 0 ≤ x ∧ x < 256) (by omega) (shaF_range _)
theorem getD_lt {α : Type} {l : List α} {i : Nat} (h : i < l.length) (d : α) : l.getD i d = l[i] := by simp [List.getD_eq_getElem?_getD, List.getElem?_eq_getElem h]
theorem rg1 (n : Int) (h0 : 0 ≤ n) (h1 : n < 256) : rg [n] := fun j => by
  cases j with
  | zero => exact ⟨h0, h1⟩
  | succ j => simp

noncomputable def cd_same : Code := (Go.Proofs.Try.f14.body).getD .skip
def sg_same : List Arg := [.one (.sli .u8), .one (.sli .u8)]
def pr_same : SgT FMp sg_same → List Prop
  | ((A, (a, c)), ((B, (b, e)), ())) => (fun (A : Option Addr) (a : List Int) (c : Nat) (B : Option Addr) (b : List Int) (e : Nat) => ([rg a, rg b] : List Prop)) A a c B b e
def ps_same : SgT FMp sg_same → PS FMp
  | ((A, (a, c)), ((B, (b, e)), ())) => (fun (A : Option Addr) (a : List Int) (c : Nat) (B : Option Addr) (b : List Int) (e : Nat) => (⟨Unit, fun y => [], fun y => one (.bool (decide (a = b))), fun y => [], fun y => []⟩ : PS FMp)) A a c B b e
def la_same : SgT FMp sg_same → List (Nat × (SS FMp → HA FMp))
  | ((A, (a, c)), ((B, (b, e)), ())) => (fun (A : Option Addr) (a : List Int) (c : Nat) (B : Option Addr) (b : List Int) (e : Nat) => ([] : List (Nat × (SS FMp → HA FMp)))) A a c B b e
def ca_same : SgT FMp sg_same → List (Nat × (SS FMp → HA FMp))
  | ((A, (a, c)), ((B, (b, e)), ())) => (fun (A : Option Addr) (a : List Int) (c : Nat) (B : Option Addr) (b : List Int) (e : Nat) => ([] : List (Nat × (SS FMp → HA FMp)))) A a c B b e
theorem vc_same (A : Option Addr) (a : List Int) (c : Nat) (B : Option Addr) (b : List Int) (e : Nat) : Vc (vc (FM := FMp) Xp 10 [] (la_same ((A, (a, c)), ((B, (b, e)), ()))) (ca_same ((A, (a, c)), ((B, (b, e)), ()))) [] [] [.tmp 4] sg_same pr_same ps_same cd_same 300 ((A, (a, c)), ((B, (b, e)), ()))) := by
  refine ⟨Eq.mpr (β := (A.isNone = true → a = []) → (B.isNone = true → b = []) → rg a → rg b → a.length = a.length ∧ b.length = b.length ∧ (∀ (x : Int), x ∈ a → (0 : Int) ≤ x ∧ x < (256 : Int)) ∧ (∀ (x : Int), x ∈ b → (0 : Int) ≤ x ∧ x < (256 : Int)) ∧ ∃ (y : Unit), decide (a = b) = decide (a = b)) (by kernel_rfl) ?_⟩
  simp only [imin, imax, decide_eq_true_eq, decide_eq_false_iff_not, Prod.forall, Prod.exists, exists_eq_left', exists_eq_left, exists_and_left, exists_and_right, exists_eq_right, exists_eq, exists_eq', true_and, and_true, forall_const, exists_const, eq_self, Bool.not_eq_true, Bool.not_eq_eq_eq_not, Bool.not_true, Bool.not_false, Value.slice.injEq, Option.getD_some, imp_self, implies_true, Option.some.injEq, Addr.mk.injEq, true_or, or_true, List.length_cons, List.length_nil, Nat.zero_add, Nat.reduceAdd]
  intro _ _ ha hb
  exact ⟨mem_of_get (p := fun x => 0 ≤ x ∧ x < 256) ha, mem_of_get (p := fun x => 0 ≤ x ∧ x < 256) hb⟩
noncomputable def con_same : Con Xp.P FMp := ⟨14, sg_same, pr_same, ps_same, vc_ok (La := la_same) (Ca := ca_same) 300 (fn := Go.Proofs.Try.f14) (by kernel_rfl) (c := cd_same) (by kernel_rfl) (by kernel_rfl) (by kernel_rfl) (by kernel_rfl) (fun ⟨⟨A, ⟨a, c⟩⟩, ⟨⟨B, ⟨b, e⟩⟩, ⟨⟩⟩⟩ => vc_same A a c B b e)⟩

end Go.Pw
