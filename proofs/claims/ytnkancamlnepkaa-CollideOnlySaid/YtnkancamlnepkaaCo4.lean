/-
  Walks by computing. No condition.
-/
import Derived.Test.YtnkancamlnepkaaCo3
set_option linter.all false
set_option maxRecDepth 100000
set_option maxHeartbeats 1000000
namespace Go.Pw
open Go Go.Px Go.RowKit
attribute [local irreducible] shaF

theorem s9 : decide (shaF [9] = List.replicate 32 0) = false := by kernel_rfl
theorem FR9 {s z : List Int} (h : s ≠ z) : FR [([1], s), ([2], z), ([3], s)] 0 2 true := by
  refine .inl ⟨rfl, 0, 2, rfl, rfl, by omega, by simp, ⟨rfl, by simp [cD]⟩, fun b hb a ha hc => ?_, fun a ha => by omega⟩
  have hb1 : b = 1 := by omega
  have ha0 : a = 0 := by omega
  subst hb1 ha0
  exact h hc.1
theorem rg1 (n : Int) (h0 : 0 ≤ n) (h1 : n < 256) : rg [n] := fun j => by
  cases j with
  | zero => exact ⟨h0, h1⟩
  | succ j => simp
theorem pth9 {s : List Int} {b : List ((Option Addr × List Int × Nat) × List Int)} (h : ctH b = pth 0 s [s]) : b.length = 1 ∧ (b.getD 0 ((none, [], 0), List.replicate 32 0)).2 = shaF ([1] ++ s ++ s) := by
  have e : pth 0 s [s] = [ent 0 [s] s 0] := by rw [pth, if_pos (by simp [fldOk])]; rfl
  rw [e] at h
  have hl : b.length = 1 := by rw [← ctH_length, h]; rfl
  refine ⟨hl, ?_⟩
  have := ctH_D b (k := 0) (by omega)
  rw [h] at this
  have := congrArg Prod.snd this
  rw [← this]
  rfl

noncomputable def cd_anch05 : Code := (Go.Proofs.Try.f17.body).getD .skip
def sg_anch05 : List Arg := []
def pr_anch05 : SgT FMp sg_anch05 → List Prop
  | () => ([] : List Prop)
def ps_anch05 : SgT FMp sg_anch05 → PS FMp
  | () => (⟨Unit, fun y => [], fun y => one (.bool (true)), fun y => [], fun y => []⟩ : PS FMp)
def la_anch05 : SgT FMp sg_anch05 → List (Nat × (SS FMp → HA FMp))
  | () => ([] : List (Nat × (SS FMp → HA FMp)))
def ca_anch05 : SgT FMp sg_anch05 → List (Nat × (SS FMp → HA FMp))
  | () => ([] : List (Nat × (SS FMp → HA FMp)))
theorem vc_anch05  : Vc (vc (FM := FMp) Xp 58 [con_rsum, con_cfind, con_cpath, con_rpair] (la_anch05 ()) (ca_anch05 ()) [] [] [.tmp 0] sg_anch05 pr_anch05 ps_anch05 cd_anch05 300 ()) := by
  refine ⟨Eq.mpr (β := ∀ (b : Nat), (1 : Nat) = (1 : Nat) ∧ (1 : Nat) ≤ (140737488355000 : Nat) ∧ (∀ (j : Nat), (0 : Int) ≤ [(9 : Int)].getD j (0 : Int) ∧ [(9 : Int)].getD j (0 : Int) < (256 : Int)) ∧ ∀ (y : Unit), (32 : Nat) = (32 : Nat) → (32 : Nat) = (32 : Nat) → ∀ (b b b_1 b_2 b_3 : Nat), (3 : Nat) = (3 : Nat) ∧ (3 : Nat) = [((some (Addr.mk b (0 : Nat) none), [(1 : Int)], (1 : Nat)), shaF [(9 : Int)]), ((some (Addr.mk b_1 (0 : Nat) none), [(2 : Int)], (1 : Nat)), List.replicate (32 : Nat) (0 : Int)), ((some (Addr.mk b_2 (0 : Nat) none), [(3 : Int)], (1 : Nat)), shaF [(9 : Int)])].length ∧ (1 : Nat) = (1 : Nat) ∧ (1 : Nat) = (1 : Nat) ∧ (1 : Nat) = (1 : Nat) ∧ [((some (Addr.mk b (0 : Nat) none), [(1 : Int)], (1 : Nat)), shaF [(9 : Int)]), ((some (Addr.mk b_1 (0 : Nat) none), [(2 : Int)], (1 : Nat)), List.replicate (32 : Nat) (0 : Int)), ((some (Addr.mk b_2 (0 : Nat) none), [(3 : Int)], (1 : Nat)), shaF [(9 : Int)])].length ≤ (140737488355328 : Nat) ∧ (∀ (x : (Option Addr × List Int × Nat) × List Int), x ∈ [((some (Addr.mk b (0 : Nat) none), [(1 : Int)], (1 : Nat)), shaF [(9 : Int)]), ((some (Addr.mk b_1 (0 : Nat) none), [(2 : Int)], (1 : Nat)), List.replicate (32 : Nat) (0 : Int)), ((some (Addr.mk b_2 (0 : Nat) none), [(3 : Int)], (1 : Nat)), shaF [(9 : Int)])] → rg x.fst.2.1) ∧ ∀ (y : Int × Int × Bool), FR (ctH [((some (Addr.mk b (0 : Nat) none), [(1 : Int)], (1 : Nat)), shaF [(9 : Int)]), ((some (Addr.mk b_1 (0 : Nat) none), [(2 : Int)], (1 : Nat)), List.replicate (32 : Nat) (0 : Int)), ((some (Addr.mk b_2 (0 : Nat) none), [(3 : Int)], (1 : Nat)), shaF [(9 : Int)])]) y.1 y.2.1 y.2.2 → ∀ (b : Nat), (1 : Nat) = (1 : Nat) ∧ ∀ (y_1 : Option Addr × Nat × List ((Option Addr × List Int × Nat) × List Int)), y_1.2.2.length = y_1.2.2.length → (∀ (a : (Option Addr × List Int × Nat) × List Int), a ∈ y_1.2.2 → a.2.length = (32 : Nat)) → ctH y_1.2.2 = pth (0 : Int) (shaF [(9 : Int)]) [shaF [(9 : Int)]] → ((y.2.2 && decide (y.1 = (0 : Int)) && decide (y.2.1 = (2 : Int)) && decide ((0 : Int) = (0 : Int)) && decide ((↑y_1.2.2.length : Int) = (1 : Int))) = true → (0 : Int) ≤ (0 : Int) ∧ (0 : Int) < (↑y_1.2.2.length : Int) ∧ (0 : Nat) < y_1.2.2.length ∧ (0 : Nat) < y_1.2.2.length ∧ (∀ (j : Nat), (0 : Int) ≤ (shaF [(9 : Int)]).getD j (0 : Int) ∧ (shaF [(9 : Int)]).getD j (0 : Int) < (256 : Int)) ∧ (∀ (j : Nat), (0 : Int) ≤ (shaF [(9 : Int)]).getD j (0 : Int) ∧ (shaF [(9 : Int)]).getD j (0 : Int) < (256 : Int)) ∧ ∀ (y : Unit), (32 : Nat) = (32 : Nat) → (32 : Nat) = (32 : Nat) → ∃ (y : Unit), decide ((y_1.2.2.getD (0 : Nat) (((none, [], 0), List.replicate 32 0) : (Option Addr × List Int × Nat) × List Int)).2 = shaF ([(1 : Int)] ++ shaF [(9 : Int)] ++ shaF [(9 : Int)])) = true) ∧ ((y.2.2 && decide (y.1 = (0 : Int)) && decide (y.2.1 = (2 : Int)) && decide ((0 : Int) = (0 : Int)) && decide ((↑y_1.2.2.length : Int) = (1 : Int))) = false → ∃ (y : Unit), false = true)) (by kernel_rfl) ?_⟩
  simp only [imin, imax, decide_eq_true_eq, decide_eq_false_iff_not, Prod.forall, Prod.exists, exists_eq_left', exists_eq_left, exists_and_left, exists_and_right, exists_eq_right, exists_eq, exists_eq', true_and, and_true, forall_const, exists_const, eq_self, Bool.not_eq_true, Bool.not_eq_eq_eq_not, Bool.not_true, Bool.not_false, Value.slice.injEq, Option.getD_some, imp_self, implies_true, Option.some.injEq, Addr.mk.injEq, true_or, or_true, List.length_cons, List.length_nil, Nat.zero_add, Nat.reduceAdd]
  refine ⟨by omega, rg1 9 (by omega) (by omega), fun b0 b1 b2 => ⟨by omega, fun A l q s hm => ?_, fun i j ok hF A q l hl hp => ?_⟩⟩
  · simp only [List.mem_cons, Prod.mk.injEq, List.not_mem_nil, or_false] at hm
    rcases hm with ⟨⟨-, rfl, -⟩, -⟩ | ⟨⟨-, rfl, -⟩, -⟩ | ⟨⟨-, rfl, -⟩, -⟩
    · exact rg1 1 (by omega) (by omega)
    · exact rg1 2 (by omega) (by omega)
    · exact rg1 3 (by omega) (by omega)
  · obtain ⟨rfl, rfl, rfl⟩ := FR_unique hF (FR9 (of_decide_eq_false s9))
    obtain ⟨h1, h2⟩ := pth9 hp
    rw [h1]
    exact ⟨fun _ => ⟨by omega, by omega, by omega, by omega, rg_sha _, rg_sha _, h2⟩, fun h => by simp at h⟩
noncomputable def con_anch05 : Con Xp.P FMp := ⟨17, sg_anch05, pr_anch05, ps_anch05, vc_ok (La := la_anch05) (Ca := ca_anch05) 300 (fn := Go.Proofs.Try.f17) (by kernel_rfl) (c := cd_anch05) (by kernel_rfl) (by kernel_rfl) (by kernel_rfl) (by kernel_rfl) (fun ⟨⟩ => vc_anch05 )⟩
noncomputable def cd_lawFinds : Code := (Go.Proofs.Try.f4.body).getD .skip
def sg_lawFinds : List Arg := [.one (.slr 5)]
def pr_lawFinds : SgT FMp sg_lawFinds → List Prop
  | ((A, (ls, c)), ()) => (fun (A : Option Addr) (ls : List ((Option Addr × List Int × Nat) × List Int)) (c : Nat) => ([ls.length ≤ 140737488355328, ∀ x ∈ ls, rg x.1.2.1] : List Prop)) A ls c
def ps_lawFinds : SgT FMp sg_lawFinds → PS FMp
  | ((A, (ls, c)), ()) => (fun (A : Option Addr) (ls : List ((Option Addr × List Int × Nat) × List Int)) (c : Nat) => (⟨Unit, fun y => [], fun y => one (.bool (true)), fun y => [], fun y => []⟩ : PS FMp)) A ls c
def la_lawFinds : SgT FMp sg_lawFinds → List (Nat × (SS FMp → HA FMp))
  | ((A, (ls, c)), ()) => (fun (A : Option Addr) (ls : List ((Option Addr × List Int × Nat) × List Int)) (c : Nat) => ([] : List (Nat × (SS FMp → HA FMp)))) A ls c
def ca_lawFinds : SgT FMp sg_lawFinds → List (Nat × (SS FMp → HA FMp))
  | ((A, (ls, c)), ()) => (fun (A : Option Addr) (ls : List ((Option Addr × List Int × Nat) × List Int)) (c : Nat) => ([] : List (Nat × (SS FMp → HA FMp)))) A ls c
theorem vc_lawFinds (A : Option Addr) (ls : List ((Option Addr × List Int × Nat) × List Int)) (c : Nat) : Vc (vc (FM := FMp) Xp 37 [con_cfind, con_rcfind, con_anch05] (la_lawFinds ((A, (ls, c)), ())) (ca_lawFinds ((A, (ls, c)), ())) [] [] [.tmp 2] sg_lawFinds pr_lawFinds ps_lawFinds cd_lawFinds 300 ((A, (ls, c)), ())) := by
  refine ⟨Eq.mpr (β := (∀ (a : (Option Addr × List Int × Nat) × List Int), a ∈ ls → a.2.length = (32 : Nat)) → ls.length ≤ (140737488355328 : Nat) → (∀ (x : (Option Addr × List Int × Nat) × List Int), x ∈ ls → rg x.fst.2.1) → ls.length = ls.length ∧ ls.length ≤ (140737488355328 : Nat) ∧ (∀ (x : (Option Addr × List Int × Nat) × List Int), x ∈ ls → rg x.fst.2.1) ∧ ∀ (y : Int × Int × Bool), FR (ctH ls) y.1 y.2.1 y.2.2 → ls.length = ls.length ∧ ls.length ≤ (140737488355328 : Nat) ∧ (∀ (x : (Option Addr × List Int × Nat) × List Int), x ∈ ls → rg x.fst.2.1) ∧ ∀ (y_1 : Int × Int × Bool), FR (ctH ls) y_1.1 y_1.2.1 y_1.2.2 → ((decide (y.1 = y_1.1) && decide (y.2.1 = y_1.2.1) && y.2.2 == y_1.2.2) = true → ∀ (y : Unit), ∃ (y : Unit), true = true) ∧ ((decide (y.1 = y_1.1) && decide (y.2.1 = y_1.2.1) && y.2.2 == y_1.2.2) = false → ∃ (y : Unit), false = true)) (by kernel_rfl) ?_⟩
  simp only [imin, imax, decide_eq_true_eq, decide_eq_false_iff_not, Prod.forall, Prod.exists, exists_eq_left', exists_eq_left, exists_and_left, exists_and_right, exists_eq_right, exists_eq, exists_eq', true_and, and_true, forall_const, exists_const, eq_self, Bool.not_eq_true, Bool.not_eq_eq_eq_not, Bool.not_true, Bool.not_false, Value.slice.injEq, Option.getD_some, imp_self, implies_true, Option.some.injEq, Addr.mk.injEq, true_or, or_true, List.length_cons, List.length_nil, Nat.zero_add, Nat.reduceAdd]
  intro h1 h2 h3
  refine ⟨h2, h3, fun i j ok hF => ⟨h2, h3, fun a b is hG h => ?_⟩⟩
  obtain ⟨rfl, rfl, rfl⟩ := FR_unique hF hG
  simp at h
noncomputable def con_lawFinds : Con Xp.P FMp := ⟨4, sg_lawFinds, pr_lawFinds, ps_lawFinds, vc_ok (La := la_lawFinds) (Ca := ca_lawFinds) 300 (fn := Go.Proofs.Try.f4) (by kernel_rfl) (c := cd_lawFinds) (by kernel_rfl) (by kernel_rfl) (by kernel_rfl) (by kernel_rfl) (fun ⟨⟨A, ⟨ls, c⟩⟩, ⟨⟩⟩ => vc_lawFinds A ls c)⟩
theorem XpP : Xp.P = Go.Proofs.Try.prog := by kernel_rfl
theorem law_lawFinds (W : World) (A : Option Addr) (ls : List ((Option Addr × List Int × Nat) × List Int)) (c : Nat) (h1 : ∀ a ∈ ls, a.2.length = 32) (hR : Rd W A (fden fmHashed ls ++ [])) (hD : ∀ a ∈ ls, fmRd fmHashed W a) (h2 : ls.length ≤ 140737488355328) (h3 : ∀ a ∈ ls, rg a.1.2.1) : Calls Go.Proofs.Try.prog 4 #[.slice A ls.length c] W (fun e w' => e = .returned (.bool true) ∧ Hp no W w' []) := by
  have hy : All (sgHy (FM := FMp) sg_lawFinds ((A, (ls, c)), ())) := ⟨h1, trivial⟩
  have hrk : ROk (FM := FMp) (sgBd (FM := FMp) sg_lawFinds ((A, (ls, c)), ()) 0).1 W (sgBd (FM := FMp) sg_lawFinds ((A, (ls, c)), ()) 0).2 := ⟨⟨hR, ⟨hD, trivial⟩⟩, trivial⟩
  have hpr : All (pr_lawFinds ((A, (ls, c)), ())) := ⟨h2, h3, trivial⟩
  have h0 : Calls Xp.P 4 #[.slice A ls.length c] W ((ps_lawFinds ((A, (ls, c)), ())).R no W) := con_lawFinds.ok W ((A, (ls, c)), ()) hy hrk hpr
  have h1 : Calls Xp.P 4 #[.slice A ls.length c] W (fun e w' => e = .returned (.bool true) ∧ Hp no W w' []) := h0.mono fun e w' h => by
    obtain ⟨_, h1, _, _, h2, _⟩ := h
    exact ⟨h1, h2⟩
  rw [XpP] at h1
  exact h1

end Go.Pw
