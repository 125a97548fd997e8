/-
  Walks by computing. No condition.
-/
import Derived.Test.YtogpbbgcdeiplaaSa6
set_option linter.all false
set_option maxRecDepth 100000
set_option maxHeartbeats 1000000
namespace Go.Pw
open Go Go.Px Go.RowKit
attribute [local irreducible] shaF

theorem shl1' : ∀ n : Nat, n ≤ 16 → shlV .i64 1 (n : Int) = 2 ^ n := by
  intro n h
  have : ∀ n : Fin 17, shlV .i64 1 ((n.val : Nat) : Int) = 2 ^ n.val := by decide
  exact this ⟨n, by omega⟩
theorem shl1 {d : Int} (h0 : 0 ≤ d) (h1 : d ≤ 16) : shlV .i64 1 d = 2 ^ d.toNat := by
  have := shl1' d.toNat (by omega)
  rwa [Int.toNat_of_nonneg h0] at this
def askV (d i n : Int) : Int := if 0 ≤ d ∧ d ≤ 16 ∧ 0 ≤ i ∧ i < 2 ^ d.toNat then (if 2 ^ d.toNat < n then 4 else 0) else 2

noncomputable def cd_asked : Code := (Go.Proofs.Try.f113.body).getD .skip
def sg_asked : List Arg := [.one (.int .i64), .one (.int .i64), .one (.int .i64)]
def pr_asked : SgT FMp sg_asked → List Prop
  | (d, (i, (n, ()))) => (fun (d i n : Int) => ([] : List Prop)) d i n
def ps_asked : SgT FMp sg_asked → PS FMp
  | (d, (i, (n, ()))) => (fun (d i n : Int) => (⟨Unit, fun y => [], fun y => one (.int .i64 (askV d i n)), fun y => [], fun y => []⟩ : PS FMp)) d i n
def la_asked : SgT FMp sg_asked → List (Nat × (SS FMp → HA FMp))
  | (d, (i, (n, ()))) => (fun (d i n : Int) => ([] : List (Nat × (SS FMp → HA FMp)))) d i n
def ca_asked : SgT FMp sg_asked → List (Nat × (SS FMp → HA FMp))
  | (d, (i, (n, ()))) => (fun (d i n : Int) => ([] : List (Nat × (SS FMp → HA FMp)))) d i n
theorem vc_asked (d i n : Int) : Vc (vc (FM := FMp) Xp 26 [] (la_asked (d, (i, (n, ())))) (ca_asked (d, (i, (n, ())))) [] [136] [.tmp 6] sg_asked pr_asked ps_asked cd_asked 300 (d, (i, (n, ())))) := by
  refine ⟨Eq.mpr (β := ((!(decide ((0 : Int) ≤ d) && decide (d ≤ (16 : Int))) || decide (i < (0 : Int))) = false → (0 : Int) ≤ d) ∧ ((!(decide ((0 : Int) ≤ d) && decide (d ≤ (16 : Int))) || decide (i < (0 : Int)) || decide (shlV IntKind.i64 (1 : Int) d ≤ i)) = true → ∃ (y : Unit), (2 : Int) = askV d i n) ∧ ((!(decide ((0 : Int) ≤ d) && decide (d ≤ (16 : Int))) || decide (i < (0 : Int)) || decide (shlV IntKind.i64 (1 : Int) d ≤ i)) = false → (0 : Int) ≤ d ∧ (decide (shlV IntKind.i64 (1 : Int) d < n) = true → ∃ (y : Unit), (4 : Int) = askV d i n) ∧ (decide (shlV IntKind.i64 (1 : Int) d < n) = false → ∃ (y : Unit), (0 : Int) = askV d i n))) (by kernel_rfl) ?_⟩
  simp only [imin, imax, decide_eq_true_eq, decide_eq_false_iff_not, Prod.forall, Prod.exists, exists_eq_left', exists_eq_left, exists_and_left, exists_and_right, exists_eq_right, exists_eq, exists_eq', true_and, and_true, forall_const, exists_const, eq_self, Bool.not_eq_true, Bool.not_eq_eq_eq_not, Bool.not_true, Bool.not_false, Value.slice.injEq, Option.getD_some]
  by_cases h0 : 0 ≤ d
  · by_cases h1 : d ≤ 16
    · rw [shl1 h0 h1]
      by_cases h2 : i < 0
      · simp [askV, h0, h1, h2, show ¬ 0 ≤ i by omega]
      · by_cases h3 : i < 2 ^ d.toNat
        · simp [askV, h0, h1, h2, h3, show 0 ≤ i by omega, show ¬ (2 ^ d.toNat ≤ i) by omega]
        · simp [askV, h0, h1, h2, h3, show 0 ≤ i by omega, show 2 ^ d.toNat ≤ i by omega]
    · simp [askV, h0, h1]
  · simp [askV, h0]
noncomputable def con_asked : Con Xp.P FMp := ⟨113, sg_asked, pr_asked, ps_asked, vc_ok (La := la_asked) (Ca := ca_asked) 300 (fn := Go.Proofs.Try.f113) (by kernel_rfl) (c := cd_asked) (by kernel_rfl) (by kernel_rfl) (by kernel_rfl) (by kernel_rfl) (fun ⟨d, ⟨i, ⟨n, ⟨⟩⟩⟩⟩ => vc_asked d i n)⟩

end Go.Pw
