/-
  Walks by computing. No condition.
-/
import Derived.Test.YtnkancamlnepkaaMe4
set_option linter.all false
set_option maxRecDepth 100000
set_option maxHeartbeats 1000000
namespace Go.Pw
open Go Go.Px Go.RowKit
attribute [local irreducible] shaF

noncomputable def cd_lawFolds : Code := (Go.Proofs.Try.f10.body).getD .skip
def sg_lawFolds : List Arg := [.one (.int .i64), .ag [.arr .u8 32, .arr .u8 32, .arr .u8 32], .one (.slr 0)]
def pr_lawFolds : SgT FMp sg_lawFolds → List Prop
  | (i, ((x, (z, (r, ()))), ((A, (ps, c)), ()))) => (fun (i : Int) (x z r : List Int) (A : Option Addr) (ps : List (List Int)) (c : Nat) => ([rg x, rg z, ∀ a ∈ ps, rg a] : List Prop)) i x z r A ps c
def ps_lawFolds : SgT FMp sg_lawFolds → PS FMp
  | (i, ((x, (z, (r, ()))), ((A, (ps, c)), ()))) => (fun (i : Int) (x z r : List Int) (A : Option Addr) (ps : List (List Int)) (c : Nat) => (⟨Unit, fun y => [], fun y => one (.bool (true)), fun y => [], fun y => []⟩ : PS FMp)) i x z r A ps c
def la_lawFolds : SgT FMp sg_lawFolds → List (Nat × (SS FMp → HA FMp))
  | (i, ((x, (z, (r, ()))), ((A, (ps, c)), ()))) => (fun (i : Int) (x z r : List Int) (A : Option Addr) (ps : List (List Int)) (c : Nat) => ([] : List (Nat × (SS FMp → HA FMp)))) i x z r A ps c
def ca_lawFolds : SgT FMp sg_lawFolds → List (Nat × (SS FMp → HA FMp))
  | (i, ((x, (z, (r, ()))), ((A, (ps, c)), ()))) => (fun (i : Int) (x z r : List Int) (A : Option Addr) (ps : List (List Int)) (c : Nat) => ([] : List (Nat × (SS FMp → HA FMp)))) i x z r A ps c
theorem vc_lawFolds (i : Int) (x z r : List Int) (A : Option Addr) (ps : List (List Int)) (c : Nat) : Vc (vc (FM := FMp) Xp 104 [con_fold, con_rfold, con_mswap, con_rswap, con_mcheck, con_rcheck, con_anch04] (la_lawFolds (i, ((x, (z, (r, ()))), ((A, (ps, c)), ())))) (ca_lawFolds (i, ((x, (z, (r, ()))), ((A, (ps, c)), ())))) [] [] [.tmp 6] sg_lawFolds pr_lawFolds ps_lawFolds cd_lawFolds 300 (i, ((x, (z, (r, ()))), ((A, (ps, c)), ())))) := by
  refine ⟨Eq.mpr (β := x.length = (32 : Nat) → z.length = (32 : Nat) → r.length = (32 : Nat) → (∀ (a : List Int), a ∈ ps → a.length = (32 : Nat)) → rg x → rg z → (∀ (a : List Int), a ∈ ps → rg a) → ∀ (b : Nat), ps.length = ps.length ∧ ∀ (y : Unit), (fldH i x ps).length = (32 : Nat) → (fldH i x ps).length = (32 : Nat) → ∀ (b : Nat), ps.length = ps.length ∧ rg x ∧ (∀ (a : List Int), a ∈ ps → rg a) ∧ ∀ (y : Unit), (fldH i x ps).length = (32 : Nat) → (fldH i x ps).length = (32 : Nat) → ∀ (b : Nat), ps.length = ps.length ∧ ∀ (y : Unit), (swpH r i x z ps).length = (32 : Nat) → (swpH r i x z ps).length = (32 : Nat) → ∀ (b : Nat), ps.length = ps.length ∧ rg x ∧ rg z ∧ (∀ (a : List Int), a ∈ ps → rg a) ∧ ∀ (y : Unit), (swpH r i x z ps).length = (32 : Nat) → (swpH r i x z ps).length = (32 : Nat) → ∀ (b : Nat), ((decide (fldH i x ps = fldH i x ps) && decide (fldE i ps.length = fldE i ps.length) && decide (swpH r i x z ps = swpH r i x z ps) && chkV r i x ps == chkV r i x ps) = true → ps.length = ps.length ∧ ∀ (y : Unit), ps.length = ps.length ∧ rg x ∧ (∀ (a : List Int), a ∈ ps → rg a) ∧ ∀ (y : Unit), ((chkV r i x ps == chkV r i x ps) = true → ps.length = ps.length ∧ ∀ (y : Unit), ((chkV (fldH i x ps) i x ps == decide (fldE i ps.length = (0 : Int))) = true → ∀ (y : Unit), ∃ (y : Unit), true = true) ∧ ((chkV (fldH i x ps) i x ps == decide (fldE i ps.length = (0 : Int))) = false → ∃ (y : Unit), false = true)) ∧ ((chkV r i x ps == chkV r i x ps) = false → ∃ (y : Unit), false = true)) ∧ ((decide (fldH i x ps = fldH i x ps) && decide (fldE i ps.length = fldE i ps.length) && decide (swpH r i x z ps = swpH r i x z ps) && chkV r i x ps == chkV r i x ps) = false → ∃ (y : Unit), false = true)) (by kernel_rfl) ?_⟩
  simp only [imin, imax, decide_eq_true_eq, decide_eq_false_iff_not, Prod.forall, Prod.exists, exists_eq_left', exists_eq_left, exists_and_left, exists_and_right, exists_eq_right, exists_eq, exists_eq', true_and, and_true, forall_const, exists_const, eq_self, Bool.not_eq_true, Bool.not_eq_eq_eq_not, Bool.not_true, Bool.not_false, Value.slice.injEq, Option.getD_some]
  intro hx hz hr hps h1 h2 h3
  have e1 : (chkV r i x ps == chkV r i x ps) = true := by simp
  have e2 : (chkV (fldH i x ps) i x ps == decide (fldE i ps.length = 0)) = true := by simp [chkV]
  exact fun _ _ => ⟨h1, h3, fun _ _ _ _ => ⟨h1, h2, h3, fun _ _ => ⟨fun _ => ⟨h1, h3, fun _ => ⟨fun _ => trivial, fun h => by rw [e2] at h; cases h⟩, fun h => by rw [e1] at h; cases h⟩, fun h => by simp at h⟩⟩⟩
noncomputable def con_lawFolds : Con Xp.P FMp := ⟨10, sg_lawFolds, pr_lawFolds, ps_lawFolds, vc_ok (La := la_lawFolds) (Ca := ca_lawFolds) 300 (fn := Go.Proofs.Try.f10) (by kernel_rfl) (c := cd_lawFolds) (by kernel_rfl) (by kernel_rfl) (by kernel_rfl) (by kernel_rfl) (fun ⟨i, ⟨⟨x, ⟨z, ⟨r, ⟨⟩⟩⟩⟩, ⟨⟨A, ⟨ps, c⟩⟩, ⟨⟩⟩⟩⟩ => vc_lawFolds i x z r A ps c)⟩
theorem XpP : Xp.P = Go.Proofs.Try.prog := by kernel_rfl
theorem law_lawFolds (W : World) (i : Int) (x z r : List Int) (A : Option Addr) (ps : List (List Int)) (c : Nat) (h1 : x.length = 32) (h2 : z.length = 32) (h3 : r.length = 32) (h4 : ∀ a ∈ ps, a.length = 32) (hR : Rd W A (fden fmHash ps ++ [])) (h5 : rg x) (h6 : rg z) (h7 : ∀ a ∈ ps, rg a) : Calls Go.Proofs.Try.prog 10 #[.int .i64 i, .agg (iv .u8 x ++ (iv .u8 z ++ iv .u8 r)).toArray, .slice A ps.length c] W (fun e w' => e = .returned (.bool true) ∧ Hp no W w' []) := by
  have hy : All (sgHy (FM := FMp) sg_lawFolds (i, ((x, (z, (r, ()))), ((A, (ps, c)), ())))) := ⟨h1, h2, h3, h4, trivial⟩
  have hrk : ROk (FM := FMp) (sgBd (FM := FMp) sg_lawFolds (i, ((x, (z, (r, ()))), ((A, (ps, c)), ()))) 0).1 W (sgBd (FM := FMp) sg_lawFolds (i, ((x, (z, (r, ()))), ((A, (ps, c)), ()))) 0).2 := ⟨⟨hR, ⟨fun a _ => fmRd.flat rfl W a, trivial⟩⟩, trivial⟩
  have hpr : All (pr_lawFolds (i, ((x, (z, (r, ()))), ((A, (ps, c)), ())))) := ⟨h5, h6, h7, trivial⟩
  have h0 : Calls Xp.P 10 #[.int .i64 i, .agg (iv .u8 x ++ (iv .u8 z ++ (iv .u8 r ++ []))).toArray, .slice A ps.length c] W ((ps_lawFolds (i, ((x, (z, (r, ()))), ((A, (ps, c)), ())))).R no W) := con_lawFolds.ok W (i, ((x, (z, (r, ()))), ((A, (ps, c)), ()))) hy hrk hpr
  have he : (#[.int .i64 i, .agg (iv .u8 x ++ (iv .u8 z ++ (iv .u8 r ++ []))).toArray, .slice A ps.length c] : Array Value) = #[.int .i64 i, .agg (iv .u8 x ++ (iv .u8 z ++ iv .u8 r)).toArray, .slice A ps.length c] := by simp only [List.append_nil]
  rw [he] at h0
  have h1 : Calls Xp.P 10 #[.int .i64 i, .agg (iv .u8 x ++ (iv .u8 z ++ iv .u8 r)).toArray, .slice A ps.length c] W (fun e w' => e = .returned (.bool true) ∧ Hp no W w' []) := h0.mono fun e w' h => by
    obtain ⟨_, h1, _, _, h2, _⟩ := h
    exact ⟨h1, h2⟩
  rw [XpP] at h1
  exact h1

end Go.Pw
