/-
  Walks by computing. No condition.
-/
import Derived.Test.YtogpbbgcdeiplaaSt3
import Derived.Test.YtogpbbgcdeiplaaBr2
set_option linter.all false
set_option maxRecDepth 100000
set_option maxHeartbeats 1000000
namespace Go.Pw
open Go Go.Px Go.RowKit
attribute [local irreducible] shaF

def owN (sp : List Bool) (ou : List (Int × Int)) : Nat → Int
  | 0 => 0
  | k + 1 => owN sp ou k + if sp.getD k false = true then 0 else (ou.getD k (0, 0)).2
def owOk (sp : List Bool) (ou : List (Int × Int)) : Prop := owN sp ou ou.length ≤ 4611686018427387904
instance (sp : List Bool) (ou : List (Int × Int)) : Decidable (owOk sp ou) := by unfold owOk; infer_instance
def smOk (acc : List (Int × Int × List Int)) (ou : List (Int × Int)) : Bool := decide (stE acc = 0) && decide (ou.length ≤ 32)
def owE (sp : List Bool) (acc : List (Int × Int × List Int)) (ou : List (Int × Int)) : Int := if smOk acc ou = true then (if owOk sp ou then 0 else 4) else 2
def owV (sp : List Bool) (acc : List (Int × Int × List Int)) (ou : List (Int × Int)) : Int := if smOk acc ou = true ∧ owOk sp ou then owN sp ou ou.length else 0


theorem owN_mono {sp : List Bool} {ou : List (Int × Int)} (h : ∀ j, (0 ≤ (ou.getD j (0, 0)).1 ∧ (ou.getD j (0, 0)).1 < 18446744073709551616) ∧ (0 ≤ (ou.getD j (0, 0)).2 ∧ (ou.getD j (0, 0)).2 < 18446744073709551616)) {m n : Nat} (hl : m ≤ n) : owN sp ou m ≤ owN sp ou n := by
  induction n with
  | zero => rw [show m = 0 by omega]; exact Int.le_refl _
  | succ n ih =>
    by_cases e : m = n + 1
    · subst e; exact Int.le_refl _
    · have := ih (by omega)
      have := (h n).2.1
      rw [owN]
      split <;> omega
theorem owN_nn {sp : List Bool} {ou : List (Int × Int)} (h : ∀ j, (0 ≤ (ou.getD j (0, 0)).1 ∧ (ou.getD j (0, 0)).1 < 18446744073709551616) ∧ (0 ≤ (ou.getD j (0, 0)).2 ∧ (ou.getD j (0, 0)).2 < 18446744073709551616)) (n : Nat) : 0 ≤ owN sp ou n := owN_mono h (Nat.zero_le n)
theorem smOk_len {acc : List (Int × Int × List Int)} {ou : List (Int × Int)} (h : smOk acc ou = true) : ou.length ≤ 32 := by
  unfold smOk at h
  simp only [Bool.and_eq_true, decide_eq_true_eq] at h
  exact h.2
theorem ow_bad {sp : List Bool} {acc : List (Int × Int × List Int)} {ou : List (Int × Int)} (h : smOk acc ou = true) (o : ¬ owOk sp ou) : 0 = owV sp acc ou ∧ 4 = owE sp acc ou :=
  ⟨by rw [owV, if_neg (fun x => o x.2)], by rw [owE, if_pos h, if_neg o]⟩
theorem ow_good {sp : List Bool} {acc : List (Int × Int × List Int)} {ou : List (Int × Int)} {t : Int} (h : smOk acc ou = true) (ht : t = owN sp ou ou.length) (h2 : t ≤ 4611686018427387904) : t = owV sp acc ou ∧ 0 = owE sp acc ou := by
  have o : owOk sp ou := by unfold owOk; omega
  exact ⟨by rw [owV, if_pos ⟨h, o⟩, ht], by rw [owE, if_pos h, if_pos o]⟩
noncomputable def cd_rtot19 : Code := (Go.Proofs.Try.f15.body).getD .skip
def sg_rtot19 : List Arg := [.ag [.arr .u64 16]]
def pr_rtot19 : SgT FMp sg_rtot19 → List Prop
  | ((p, ()), ()) => (fun (p : List Int) => ([r64 p] : List Prop)) p
def ps_rtot19 : SgT FMp sg_rtot19 → PS FMp
  | ((p, ()), ()) => (fun (p : List Int) => (⟨Unit, fun y => [], fun y => .tup [.one (.xv (.int .u64 (totV p))), .one (.xv (.int .i64 (totE p)))], fun y => [], fun y => []⟩ : PS FMp)) p
def la_rtot19 : SgT FMp sg_rtot19 → List (Nat × (SS FMp → HA FMp))
  | ((p, ()), ()) => (fun (p : List Int) => ([(3, fun S => ⟨Int × Int, fun y => [], fun n y => [(5, some (one (.int .i64 (y.1)))), (4, some (one (.int .u64 (y.2))))], fun n y => S.m, fun y => [0 ≤ y.1, y.1 ≤ 16, y.2 = sumN p y.1.toNat, y.2 ≤ 4611686018427387904], fun y => (16 - y.1).toNat⟩)] : List (Nat × (SS FMp → HA FMp)))) p
def ca_rtot19 : SgT FMp sg_rtot19 → List (Nat × (SS FMp → HA FMp))
  | ((p, ()), ()) => (fun (p : List Int) => ([] : List (Nat × (SS FMp → HA FMp)))) p
theorem vc_rtot19 (p : List Int) : Vc (vc (FM := FMp) Xp 22 [] (la_rtot19 ((p, ()), ())) (ca_rtot19 ((p, ()), ())) [] [] [.tmp 2, .tmp 3] sg_rtot19 pr_rtot19 ps_rtot19 cd_rtot19 300 ((p, ()), ())) := by
  refine ⟨Eq.mpr (β := p.length = (16 : Nat) → r64 p → ∀ (b : Nat), (∃ (y : Int × Int), (0 : Int) = y.1 ∧ (0 : Int) = y.2 ∧ p = p ∧ (16 : Nat) = (16 : Nat) ∧ (0 : Int) ≤ y.1 ∧ y.1 ≤ (16 : Int) ∧ y.2 = sumN p y.1.toNat ∧ y.2 ≤ (4611686018427387904 : Int)) ∧ ∀ (y : Int × Int), p.length = (16 : Nat) → (0 : Int) ≤ y.1 → y.1 ≤ (16 : Int) → y.2 = sumN p y.1.toNat → y.2 ≤ (4611686018427387904 : Int) → (decide (y.1 < (16 : Int)) = true → (0 : Int) ≤ y.1 ∧ y.1 < (16 : Int) ∧ y.1.toNat < (16 : Nat) ∧ (decide (IntKind.u64.wrap ((4611686018427387904 : Int) - y.2) < p.getD y.1.toNat (0 : Int)) = true → ∃ (y : Unit), (0 : Int) = totV p ∧ (4 : Int) = totE p) ∧ (decide (IntKind.u64.wrap ((4611686018427387904 : Int) - y.2) < p.getD y.1.toNat (0 : Int)) = false → (0 : Int) ≤ y.1 ∧ y.1 < (16 : Int) ∧ y.1.toNat < (16 : Nat) ∧ (-9223372036854775808 : Int) ≤ y.1 + (1 : Int) ∧ y.1 + (1 : Int) ≤ (9223372036854775807 : Int) ∧ ∃ (y_1 : Int × Int), y.1 + (1 : Int) = y_1.1 ∧ IntKind.u64.wrap (y.2 + p.getD y.1.toNat (0 : Int)) = y_1.2 ∧ p = p ∧ (16 : Nat) = (16 : Nat) ∧ (0 : Int) ≤ y_1.1 ∧ y_1.1 ≤ (16 : Int) ∧ y_1.2 = sumN p y_1.1.toNat ∧ y_1.2 ≤ (4611686018427387904 : Int) ∧ ((16 : Int) - y_1.1).toNat < ((16 : Int) - y.1).toNat)) ∧ (decide (y.1 < (16 : Int)) = false → ∃ (y_1 : Unit), y.2 = totV p ∧ (0 : Int) = totE p)) (by kernel_rfl) ?_⟩
  simp only [imin, imax, decide_eq_true_eq, decide_eq_false_iff_not, Prod.forall, Prod.exists, exists_eq_left', exists_eq_left, exists_and_left, exists_and_right, exists_eq_right, exists_eq, exists_eq', true_and, and_true, forall_const, exists_const, eq_self, Bool.not_eq_true, Bool.not_eq_eq_eq_not, Bool.not_true, Bool.not_false, Value.slice.injEq, Option.getD_some, imp_self, implies_true, Option.some.injEq, Addr.mk.injEq, true_or, or_true, List.length_cons, List.length_nil, Nat.zero_add, Nat.reduceAdd]
  intro hp hr
  refine ⟨⟨by omega, by omega, rfl, by omega⟩, fun k t _ h0 h1 ht h2 => ⟨fun h3 => ?_, fun h3 => ?_⟩⟩
  · have hx := hr k.toNat
    have hnn := sumN_nn hr k.toNat
    have e : sumN p (k.toNat + 1) = sumN p k.toNat + p.getD k.toNat 0 := rfl
    have e1 : (k + 1).toNat = k.toNat + 1 := by omega
    have hm := sumN_mono hr (show k.toNat + 1 ≤ 16 by omega)
    have hw1 : IntKind.u64.wrap (4611686018427387904 - t) = 4611686018427387904 - t := by rw [wrap64, Int.emod_eq_of_lt (by omega) (by omega)]
    rw [hw1]
    refine ⟨h0, h3, by omega, fun h => ?_, fun h => ?_⟩
    · have hn : ¬ totOk p := by
        intro o
        unfold totOk at o
        omega
      exact ⟨by rw [totV, if_neg hn], by rw [totE, if_neg hn]⟩
    · rw [wrap64, Int.emod_eq_of_lt (by omega) (by omega)]
      exact ⟨h0, h3, by omega, by omega, by omega, by omega, by omega, by rw [e1, e, ht], by omega, by omega⟩
  · have hk : k.toNat = 16 := by omega
    have o : totOk p := by rw [totOk, ← hk, ← ht]; exact h2
    exact ⟨by rw [totV, if_pos o, ht, hk], by rw [totE, if_pos o]⟩
noncomputable def con_rtot19 : Con Xp.P FMp := ⟨15, sg_rtot19, pr_rtot19, ps_rtot19, vc_ok (La := la_rtot19) (Ca := ca_rtot19) 300 (fn := Go.Proofs.Try.f15) (by kernel_rfl) (c := cd_rtot19) (by kernel_rfl) (by kernel_rfl) (by kernel_rfl) (by kernel_rfl) (fun ⟨⟨p, ⟨⟩⟩, ⟨⟩⟩ => vc_rtot19 p)⟩
noncomputable def cd_rmay19 : Code := (Go.Proofs.Try.f58.body).getD .skip
def sg_rmay19 : List Arg := [.ag [.arr .u64 16]]
def pr_rmay19 : SgT FMp sg_rmay19 → List Prop
  | ((p, ()), ()) => (fun (p : List Int) => ([r64 p] : List Prop)) p
def ps_rmay19 : SgT FMp sg_rmay19 → PS FMp
  | ((p, ()), ()) => (fun (p : List Int) => (⟨Unit, fun y => [], fun y => one (.bool (decide (totE p = 0))), fun y => [], fun y => []⟩ : PS FMp)) p
def la_rmay19 : SgT FMp sg_rmay19 → List (Nat × (SS FMp → HA FMp))
  | ((p, ()), ()) => (fun (p : List Int) => ([] : List (Nat × (SS FMp → HA FMp)))) p
def ca_rmay19 : SgT FMp sg_rmay19 → List (Nat × (SS FMp → HA FMp))
  | ((p, ()), ()) => (fun (p : List Int) => ([] : List (Nat × (SS FMp → HA FMp)))) p
theorem vc_rmay19 (p : List Int) : Vc (vc (FM := FMp) Xp 12 [con_rtot19] (la_rmay19 ((p, ()), ())) (ca_rmay19 ((p, ()), ())) [] [] [.tmp 2] sg_rmay19 pr_rmay19 ps_rmay19 cd_rmay19 300 ((p, ()), ())) := by
  refine ⟨Eq.mpr (β := p.length = (16 : Nat) → r64 p → ∀ (b : Nat), r64 p ∧ ∀ (y : Unit), ∃ (y : Unit), decide (totE p = (0 : Int)) = decide (totE p = (0 : Int))) (by kernel_rfl) ?_⟩
  simp only [imin, imax, decide_eq_true_eq, decide_eq_false_iff_not, Prod.forall, Prod.exists, exists_eq_left', exists_eq_left, exists_and_left, exists_and_right, exists_eq_right, exists_eq, exists_eq', true_and, and_true, forall_const, exists_const, eq_self, Bool.not_eq_true, Bool.not_eq_eq_eq_not, Bool.not_true, Bool.not_false, Value.slice.injEq, Option.getD_some, imp_self, implies_true, Option.some.injEq, Addr.mk.injEq, true_or, or_true, List.length_cons, List.length_nil, Nat.zero_add, Nat.reduceAdd]
   
noncomputable def con_rmay19 : Con Xp.P FMp := ⟨58, sg_rmay19, pr_rmay19, ps_rmay19, vc_ok (La := la_rmay19) (Ca := ca_rmay19) 300 (fn := Go.Proofs.Try.f58) (by kernel_rfl) (c := cd_rmay19) (by kernel_rfl) (by kernel_rfl) (by kernel_rfl) (by kernel_rfl) (fun ⟨⟨p, ⟨⟩⟩, ⟨⟩⟩ => vc_rmay19 p)⟩
noncomputable def cd_rpay19 : Code := (Go.Proofs.Try.f79.body).getD .skip
def sg_rpay19 : List Arg := [.ag [.arr .u64 16], .ag [.int .i64, .int .i64, .int .u64]]
def pr_rpay19 : SgT FMp sg_rpay19 → List Prop
  | ((p, ()), ((f, (g, (a, ()))), ())) => (fun (p : List Int) (f g a : Int) => ([r64 p, 0 ≤ a] : List Prop)) p f g a
def ps_rpay19 : SgT FMp sg_rpay19 → PS FMp
  | ((p, ()), ((f, (g, (a, ()))), ())) => (fun (p : List Int) (f g a : Int) => (⟨Unit, fun y => [], fun y => .tup [.ag (zz .u64 (payP p f g a) 16), .one (.xv (.int .i64 (payE p f g a)))], fun y => [], fun y => [(payP p f g a).length = 16]⟩ : PS FMp)) p f g a
def la_rpay19 : SgT FMp sg_rpay19 → List (Nat × (SS FMp → HA FMp))
  | ((p, ()), ((f, (g, (a, ()))), ())) => (fun (p : List Int) (f g a : Int) => ([] : List (Nat × (SS FMp → HA FMp)))) p f g a
def ca_rpay19 : SgT FMp sg_rpay19 → List (Nat × (SS FMp → HA FMp))
  | ((p, ()), ((f, (g, (a, ()))), ())) => (fun (p : List Int) (f g a : Int) => ([] : List (Nat × (SS FMp → HA FMp)))) p f g a
theorem vc_rpay19 (p : List Int) (f g a : Int) : Vc (vc (FM := FMp) Xp 55 [con_rmay19] (la_rpay19 ((p, ()), ((f, (g, (a, ()))), ()))) (ca_rpay19 ((p, ()), ((f, (g, (a, ()))), ()))) [] [] [.cell 4 27, .tmp 5] sg_rpay19 pr_rpay19 ps_rpay19 cd_rpay19 300 ((p, ()), ((f, (g, (a, ()))), ()))) := by
  refine ⟨Eq.mpr (β := p.length = (16 : Nat) → r64 p → (0 : Int) ≤ a → ∀ (b b b : Nat), r64 p ∧ ∀ (y : Unit), ((!decide (totE p = (0 : Int)) || decide (f < (0 : Int)) || decide ((15 : Int) < f) || decide (g < (0 : Int)) || decide ((15 : Int) < g)) = true → ∃ (y : Unit), List.replicate (16 : Nat) (0 : Int) = payP p f g a ∧ (16 : Nat) = (16 : Nat) ∧ (2 : Int) = payE p f g a ∧ (payP p f g a).length = (16 : Nat)) ∧ ((!decide (totE p = (0 : Int)) || decide (f < (0 : Int)) || decide ((15 : Int) < f) || decide (g < (0 : Int)) || decide ((15 : Int) < g)) = false → (0 : Int) ≤ f ∧ f < (16 : Int) ∧ f.toNat < (16 : Nat) ∧ (decide (p.getD f.toNat (0 : Int) < a) = true → ∃ (y : Unit), List.replicate (16 : Nat) (0 : Int) = payP p f g a ∧ (16 : Nat) = (16 : Nat) ∧ (190 : Int) = payE p f g a ∧ (payP p f g a).length = (16 : Nat)) ∧ (decide (p.getD f.toNat (0 : Int) < a) = false → (0 : Int) ≤ f ∧ f < (16 : Int) ∧ f.toNat < (16 : Nat) ∧ (0 : Int) ≤ f ∧ f < (16 : Int) ∧ f.toNat < (16 : Nat) ∧ ∀ (q : List Int), q = p.set f.toNat (IntKind.u64.wrap (p.getD f.toNat (0 : Int) - a)) → (0 : Int) ≤ g ∧ g < (16 : Int) ∧ g.toNat < (16 : Nat) ∧ (0 : Int) ≤ g ∧ g < (16 : Int) ∧ g.toNat < (16 : Nat) ∧ ∀ (q_1 : List Int), q_1 = q.set g.toNat (IntKind.u64.wrap (q.getD g.toNat (0 : Int) + a)) → ∃ (y : Unit), q_1 = payP p f g a ∧ (16 : Nat) = (16 : Nat) ∧ (0 : Int) = payE p f g a ∧ (payP p f g a).length = (16 : Nat)))) (by kernel_rfl) ?_⟩
  simp only [imin, imax, decide_eq_true_eq, decide_eq_false_iff_not, Prod.forall, Prod.exists, exists_eq_left', exists_eq_left, exists_and_left, exists_and_right, exists_eq_right, exists_eq, exists_eq', true_and, and_true, forall_const, exists_const, eq_self, Bool.not_eq_true, Bool.not_eq_eq_eq_not, Bool.not_true, Bool.not_false, Value.slice.injEq, Option.getD_some, imp_self, implies_true, Option.some.injEq, Addr.mk.injEq, true_or, or_true, List.length_cons, List.length_nil, Nat.zero_add, Nat.reduceAdd]
  intro hp hr ha
  have tE : totE p = 0 ↔ totOk p := totE0
  have bad : ¬ (payE p f g a = 0) → List.replicate 16 0 = payP p f g a ∧ (payP p f g a).length = 16 := fun h => by rw [payP, if_neg h]; exact ⟨rfl, by simp⟩
  have out2 : ¬ (totOk p ∧ 0 ≤ f ∧ f < 16 ∧ 0 ≤ g ∧ g < 16) → List.replicate 16 0 = payP p f g a ∧ 2 = payE p f g a ∧ (payP p f g a).length = 16 := fun h => by
    have e : payE p f g a = 2 := by rw [payE, if_neg h]
    obtain ⟨b1, b2⟩ := bad (by omega)
    exact ⟨b1, e.symm, b2⟩
  refine ⟨hr, fun h => out2 (fun o => ?_), fun h => ?_⟩
  · have := tE.2 o.1
    simp only [Bool.or_eq_true, Bool.not_eq_true', decide_eq_false_iff_not, decide_eq_true_eq] at h
    omega
  simp only [Bool.or_eq_false_iff, Bool.not_eq_false', decide_eq_true_eq, decide_eq_false_iff_not] at h
  have o : totOk p ∧ 0 ≤ f ∧ f < 16 ∧ 0 ≤ g ∧ g < 16 := ⟨tE.1 h.1.1.1.1, by omega, by omega, by omega, by omega⟩
  refine ⟨o.2.1, o.2.2.1, by omega, fun h3 => ?_, fun h3 => ⟨o.2.1, o.2.2.1, by omega, o.2.1, o.2.2.1, by omega, fun q hq => ⟨o.2.2.2.1, o.2.2.2.2, by omega, o.2.2.2.1, o.2.2.2.2, by omega, fun r hr2 => ?_⟩⟩⟩
  · have e : payE p f g a = 190 := by rw [payE, if_pos o, if_neg (by omega)]
    obtain ⟨b1, b2⟩ := bad (by omega)
    exact ⟨b1, e.symm, b2⟩
  · have e : payE p f g a = 0 := by rw [payE, if_pos o, if_pos (by omega)]
    have hf := hr f.toNat
    have hg := hr g.toNat
    have sf := sumN_ge hr (show f.toNat < 16 by omega)
    have sg := sumN_ge hr (show g.toNat < 16 by omega)
    have ho := o.1
    unfold totOk at ho
    have hq' : q = payQ p f a := by rw [hq, wrap64, Int.emod_eq_of_lt (by omega) (by omega)]; rfl
    have hgq : 0 ≤ (payQ p f a).getD g.toNat 0 ∧ (payQ p f a).getD g.toNat 0 ≤ 4611686018427387904 := by
      unfold payQ
      rw [List.getD_eq_getElem?_getD, List.getElem?_set]
      by_cases hfg : f.toNat = g.toNat
      · rw [if_pos hfg, if_pos (by omega)]
        show 0 ≤ p.getD f.toNat 0 - a ∧ p.getD f.toNat 0 - a ≤ _
        omega
      · rw [if_neg hfg, ← List.getD_eq_getElem?_getD]
        omega
    subst hq'
    rw [wrap64, Int.emod_eq_of_lt (by omega) (by omega)] at hr2
    exact ⟨by rw [payP, if_pos e]; exact hr2, e.symm, by rw [payP, if_pos e]; simp [payR, payQ, hp]⟩
noncomputable def con_rpay19 : Con Xp.P FMp := ⟨79, sg_rpay19, pr_rpay19, ps_rpay19, vc_ok (La := la_rpay19) (Ca := ca_rpay19) 300 (fn := Go.Proofs.Try.f79) (by kernel_rfl) (c := cd_rpay19) (by kernel_rfl) (by kernel_rfl) (by kernel_rfl) (by kernel_rfl) (fun ⟨⟨p, ⟨⟩⟩, ⟨⟨f, ⟨g, ⟨a, ⟨⟩⟩⟩⟩, ⟨⟩⟩⟩ => vc_rpay19 p f g a)⟩
noncomputable def cd_rmay21 : Code := (Go.Proofs.Try.f12.body).getD .skip
def sg_rmay21 : List Arg := [.ag [.int .u64, .int .u64, .rcs 7 32], .ag [.arr .u64 16]]
def pr_rmay21 : SgT FMp sg_rmay21 → List Prop
  | ((i, (o, (sp, ()))), ((p, ()), ())) => (fun (i o : Int) (sp : List Bool) (p : List Int) => ([r64 p] : List Prop)) i o sp p
def ps_rmay21 : SgT FMp sg_rmay21 → PS FMp
  | ((i, (o, (sp, ()))), ((p, ()), ())) => (fun (i o : Int) (sp : List Bool) (p : List Int) => (⟨Unit, fun y => [], fun y => one (.bool (bmay p i o)), fun y => [], fun y => []⟩ : PS FMp)) i o sp p
def la_rmay21 : SgT FMp sg_rmay21 → List (Nat × (SS FMp → HA FMp))
  | ((i, (o, (sp, ()))), ((p, ()), ())) => (fun (i o : Int) (sp : List Bool) (p : List Int) => ([] : List (Nat × (SS FMp → HA FMp)))) i o sp p
def ca_rmay21 : SgT FMp sg_rmay21 → List (Nat × (SS FMp → HA FMp))
  | ((i, (o, (sp, ()))), ((p, ()), ())) => (fun (i o : Int) (sp : List Bool) (p : List Int) => ([] : List (Nat × (SS FMp → HA FMp)))) i o sp p
theorem vc_rmay21 (i o : Int) (sp : List Bool) (p : List Int) : Vc (vc (FM := FMp) Xp 29 [con_rmay19] (la_rmay21 ((i, (o, (sp, ()))), ((p, ()), ()))) (ca_rmay21 ((i, (o, (sp, ()))), ((p, ()), ()))) [] [] [.tmp 4] sg_rmay21 pr_rmay21 ps_rmay21 cd_rmay21 300 ((i, (o, (sp, ()))), ((p, ()), ()))) := by
  refine ⟨Eq.mpr (β := sp.length = (32 : Nat) → (∀ (a : Bool), List.Mem a sp → True) → p.length = (16 : Nat) → r64 p → ∀ (b b : Nat), r64 p ∧ ∀ (y : Unit), ∃ (y : Unit), (decide (totE p = (0 : Int)) && decide (i ≤ (4611686018427387904 : Int)) && decide (o ≤ i) && decide (p.getD (14 : Nat) (0 : Int) = IntKind.u64.wrap (i - o))) = bmay p i o) (by kernel_rfl) ?_⟩
  simp only [imin, imax, decide_eq_true_eq, decide_eq_false_iff_not, Prod.forall, Prod.exists, exists_eq_left', exists_eq_left, exists_and_left, exists_and_right, exists_eq_right, exists_eq, exists_eq', true_and, and_true, forall_const, exists_const, eq_self, Bool.not_eq_true, Bool.not_eq_eq_eq_not, Bool.not_true, Bool.not_false, Value.slice.injEq, Option.getD_some, imp_self, implies_true, Option.some.injEq, Addr.mk.injEq, true_or, or_true, List.length_cons, List.length_nil, Nat.zero_add, Nat.reduceAdd]
  intro _ _ h
  refine ⟨h, ?_⟩
  unfold bmay
  rw [Bool.eq_iff_iff]
  simp only [Bool.and_eq_true]
  exact ⟨fun h => ⟨⟨⟨h.1.1.1, h.1.2⟩, h.1.1.2⟩, h.2⟩, fun h => ⟨⟨⟨h.1.1.1, h.1.2⟩, h.1.1.2⟩, h.2⟩⟩
noncomputable def con_rmay21 : Con Xp.P FMp := ⟨12, sg_rmay21, pr_rmay21, ps_rmay21, vc_ok (La := la_rmay21) (Ca := ca_rmay21) 300 (fn := Go.Proofs.Try.f12) (by kernel_rfl) (c := cd_rmay21) (by kernel_rfl) (by kernel_rfl) (by kernel_rfl) (by kernel_rfl) (fun ⟨⟨i, ⟨o, ⟨sp, ⟨⟩⟩⟩⟩, ⟨⟨p, ⟨⟩⟩, ⟨⟩⟩⟩ => vc_rmay21 i o sp p)⟩
noncomputable def cd_rwrite7 : Code := (Go.Proofs.Try.f103.body).getD .skip
def sg_rwrite7 : List Arg := [.ag [.int .u8, .int .u64, .int .u64, .int .u64, .int .u64, .arr .u8 32, .arr .u8 32]]
def pr_rwrite7 : SgT FMp sg_rwrite7 → List Prop
  | ((kk, (f, (t, (a, (r, (x, (z, ()))))))), ()) => (fun (kk f t a r : Int) (x z : List Int) => ([0 ≤ kk, kk < 256, 0 ≤ a] : List Prop)) kk f t a r x z
def ps_rwrite7 : SgT FMp sg_rwrite7 → PS FMp
  | ((kk, (f, (t, (a, (r, (x, (z, ()))))))), ()) => (fun (kk f t a r : Int) (x z : List Int) => (⟨(Option Addr) × Nat, fun y => [.ad y.1], fun y => .tup [.one (.sc 0 0 (wrM kk f t a r x z).length y.2 false), .one (.xv (.int .i64 (wrE kk f t a r x z)))], fun y => [.sl 0 (wrM kk f t a r x z).length y.2 (zz .u8 (wrM kk f t a r x z) (wrM kk f t a r x z).length) 5 1], fun y => []⟩ : PS FMp)) kk f t a r x z
def la_rwrite7 : SgT FMp sg_rwrite7 → List (Nat × (SS FMp → HA FMp))
  | ((kk, (f, (t, (a, (r, (x, (z, ()))))))), ()) => (fun (kk f t a r : Int) (x z : List Int) => ([(6, fun S => ⟨Int × (List Int) × (Option Addr) × Nat, fun y => [.ad y.2.2.1], fun n y => [(5, some (.v (.one (.sc n 0 y.2.1.length y.2.2.2 false)))), (6, some (one (.int .i64 (y.1))))], fun n y => .sl n y.2.1.length y.2.2.2 (zz .u8 y.2.1 y.2.1.length) 5 1 :: S.m, fun y => [0 ≤ y.1, y.1 ≤ 5, y.2.1 = wrR [kk, f, t, a, r] y.1.toNat, y.2.1.length ≤ y.2.2.2], fun y => (5 - y.1).toNat⟩)] : List (Nat × (SS FMp → HA FMp)))) kk f t a r x z
def ca_rwrite7 : SgT FMp sg_rwrite7 → List (Nat × (SS FMp → HA FMp))
  | ((kk, (f, (t, (a, (r, (x, (z, ()))))))), ()) => (fun (kk f t a r : Int) (x z : List Int) => ([] : List (Nat × (SS FMp → HA FMp)))) kk f t a r x z
theorem vc_rwrite7 (kk f t a r : Int) (x z : List Int) : Vc (vc (FM := FMp) Xp 40 [con_rmay7, con_reight] (la_rwrite7 ((kk, (f, (t, (a, (r, (x, (z, ()))))))), ())) (ca_rwrite7 ((kk, (f, (t, (a, (r, (x, (z, ()))))))), ())) [] [] [.tmp 2, .tmp 3] sg_rwrite7 pr_rwrite7 ps_rwrite7 cd_rwrite7 300 ((kk, (f, (t, (a, (r, (x, (z, ()))))))), ())) := by
  refine ⟨Eq.mpr (β := x.length = (32 : Nat) → z.length = (32 : Nat) → (0 : Int) ≤ kk → kk < (256 : Int) → (0 : Int) ≤ a → ∀ (b : Nat), (0 : Int) ≤ a ∧ ∀ (y : Unit), ((!mayM kk f t a r x z) = true → ∃ (y : Option Addr × Nat), Value.slice none (0 : Nat) (0 : Nat) = Value.slice y.1 (wrM kk f t a r x z).length y.2 ∧ (2 : Int) = wrE kk f t a r x z ∧ y.1 = none ∧ (wrM kk f t a r x z).length = (0 : Nat) ∧ y.2 = (0 : Nat) ∧ wrM kk f t a r x z = [] ∧ (wrM kk f t a r x z).length = (0 : Nat)) ∧ ((!mayM kk f t a r x z) = false → ∀ (b : Nat), (∃ (y : Int × List Int × Option Addr × Nat), Value.slice none (0 : Nat) (0 : Nat) = Value.slice y.snd.2.1 y.2.1.length y.snd.2.2 ∧ (0 : Int) = y.1 ∧ y.snd.2.1 = none ∧ y.2.1.length = (0 : Nat) ∧ y.snd.2.2 = (0 : Nat) ∧ y.2.1 = [] ∧ y.2.1.length = (0 : Nat) ∧ (5 : Nat) = (5 : Nat) ∧ (5 : Nat) = (5 : Nat) ∧ [IntKind.u64.wrap kk, f, t, a, r] = [IntKind.u64.wrap kk, f, t, a, r] ∧ [IntKind.u64.wrap kk, f, t, a, r].length = [IntKind.u64.wrap kk, f, t, a, r].length ∧ kk = kk ∧ f = f ∧ t = t ∧ a = a ∧ r = r ∧ x = x ∧ (32 : Nat) = (32 : Nat) ∧ z = z ∧ (32 : Nat) = (32 : Nat) ∧ (0 : Int) ≤ y.1 ∧ y.1 ≤ (5 : Int) ∧ y.2.1 = wrR [kk, f, t, a, r] y.1.toNat ∧ y.2.1.length ≤ y.snd.2.2) ∧ ∀ (y : Int × List Int × Option Addr × Nat), y.2.1.length = y.2.1.length → [IntKind.u64.wrap kk, f, t, a, r].length = [IntKind.u64.wrap kk, f, t, a, r].length → x.length = (32 : Nat) → z.length = (32 : Nat) → (0 : Int) ≤ y.1 → y.1 ≤ (5 : Int) → y.2.1 = wrR [kk, f, t, a, r] y.1.toNat → y.2.1.length ≤ y.snd.2.2 → (decide (y.1 < (5 : Int)) = true → (0 : Int) ≤ y.1 ∧ y.1 < (5 : Int) ∧ y.1.toNat < [IntKind.u64.wrap kk, f, t, a, r].length ∧ ∀ (y_1 : Option Addr × Nat), (ei8 ([IntKind.u64.wrap kk, f, t, a, r].getD y.1.toNat (0 : Int))).length = (ei8 ([IntKind.u64.wrap kk, f, t, a, r].getD y.1.toNat (0 : Int))).length → (ei8 ([IntKind.u64.wrap kk, f, t, a, r].getD y.1.toNat (0 : Int))).length ≤ y_1.2 → y.2.1.length = y.2.1.length ∧ y.snd.2.2 = y.snd.2.2 ∧ (ei8 ([IntKind.u64.wrap kk, f, t, a, r].getD y.1.toNat (0 : Int))).length = (ei8 ([IntKind.u64.wrap kk, f, t, a, r].getD y.1.toNat (0 : Int))).length ∧ (y.2.1.length + (ei8 ([IntKind.u64.wrap kk, f, t, a, r].getD y.1.toNat (0 : Int))).length) * Proofs.Try.prog.types[(5 : Nat)].bytes ≤ (140737488355328 : Nat) ∧ ∀ (A : Option Addr) (q : Nat), y.2.1.length + (ei8 ([IntKind.u64.wrap kk, f, t, a, r].getD y.1.toNat (0 : Int))).length ≤ q → (-9223372036854775808 : Int) ≤ y.1 + (1 : Int) ∧ y.1 + (1 : Int) ≤ (9223372036854775807 : Int) ∧ ∃ (y_2 : Int × List Int × Option Addr × Nat), A = y_2.snd.2.1 ∧ y.2.1.length + (ei8 ([IntKind.u64.wrap kk, f, t, a, r].getD y.1.toNat (0 : Int))).length = y_2.2.1.length ∧ q = y_2.snd.2.2 ∧ y.1 + (1 : Int) = y_2.1 ∧ A = y_2.snd.2.1 ∧ y.2.1.length + (ei8 ([IntKind.u64.wrap kk, f, t, a, r].getD y.1.toNat (0 : Int))).length = y_2.2.1.length ∧ q = y_2.snd.2.2 ∧ y.2.1 ++ ei8 ([IntKind.u64.wrap kk, f, t, a, r].getD y.1.toNat (0 : Int)) = y_2.2.1 ∧ y.2.1.length + (ei8 ([IntKind.u64.wrap kk, f, t, a, r].getD y.1.toNat (0 : Int))).length = y_2.2.1.length ∧ (5 : Nat) = (5 : Nat) ∧ (5 : Nat) = (5 : Nat) ∧ [IntKind.u64.wrap kk, f, t, a, r] = [IntKind.u64.wrap kk, f, t, a, r] ∧ [IntKind.u64.wrap kk, f, t, a, r].length = [IntKind.u64.wrap kk, f, t, a, r].length ∧ kk = kk ∧ f = f ∧ t = t ∧ a = a ∧ r = r ∧ x = x ∧ (32 : Nat) = (32 : Nat) ∧ z = z ∧ (32 : Nat) = (32 : Nat) ∧ (0 : Int) ≤ y_2.1 ∧ y_2.1 ≤ (5 : Int) ∧ y_2.2.1 = wrR [kk, f, t, a, r] y_2.1.toNat ∧ y_2.2.1.length ≤ y_2.snd.2.2 ∧ ((5 : Int) - y_2.1).toNat < ((5 : Int) - y.1).toNat) ∧ (decide (y.1 < (5 : Int)) = false → y.2.1.length = y.2.1.length ∧ y.snd.2.2 = y.snd.2.2 ∧ (32 : Nat) = (32 : Nat) ∧ (y.2.1.length + (32 : Nat)) * Proofs.Try.prog.types[(5 : Nat)].bytes ≤ (140737488355328 : Nat) ∧ ∀ (A : Option Addr) (q : Nat), y.2.1.length + (32 : Nat) ≤ q → y.2.1.length + (32 : Nat) = y.2.1.length + (32 : Nat) ∧ q = q ∧ (32 : Nat) = (32 : Nat) ∧ (y.2.1.length + (32 : Nat) + (32 : Nat)) * Proofs.Try.prog.types[(5 : Nat)].bytes ≤ (140737488355328 : Nat) ∧ ∀ (A : Option Addr) (q : Nat), y.2.1.length + (32 : Nat) + (32 : Nat) ≤ q → ∃ (y_1 : Option Addr × Nat), A = y_1.1 ∧ y.2.1.length + (32 : Nat) + (32 : Nat) = (wrM kk f t a r x z).length ∧ q = y_1.2 ∧ (0 : Int) = wrE kk f t a r x z ∧ A = y_1.1 ∧ y.2.1.length + (32 : Nat) + (32 : Nat) = (wrM kk f t a r x z).length ∧ q = y_1.2 ∧ y.2.1 ++ x ++ z = wrM kk f t a r x z ∧ y.2.1.length + (32 : Nat) + (32 : Nat) = (wrM kk f t a r x z).length))) (by kernel_rfl) ?_⟩
  simp only [imin, imax, decide_eq_true_eq, decide_eq_false_iff_not, Prod.forall, Prod.exists, exists_eq_left', exists_eq_left, exists_and_left, exists_and_right, exists_eq_right, exists_eq, exists_eq', true_and, and_true, forall_const, exists_const, eq_self, Bool.not_eq_true, Bool.not_eq_eq_eq_not, Bool.not_true, Bool.not_false, Value.slice.injEq, Option.getD_some, imp_self, implies_true, Option.some.injEq, Addr.mk.injEq, true_or, or_true, List.length_cons, List.length_nil, Nat.zero_add, Nat.reduceAdd]
  intro hx hz k0 k1 ha
  have hk : IntKind.u64.wrap kk = kk := by rw [wrap64, Int.emod_eq_of_lt k0 (by omega)]
  rw [hk]
  refine ⟨ha, fun h => ?_, fun h => ⟨⟨0, [], none, 0, ⟨rfl, rfl, rfl⟩, rfl, rfl, rfl, rfl, rfl, rfl, by omega, by omega, by simp [wrR, itN], Nat.le_refl _⟩, fun j v q _ _ j0 j1 hv hq => ⟨fun g => ⟨j0, g, by omega, fun b hb => ?_⟩, fun g => ?_⟩⟩⟩
  · have e1 : wrM kk f t a r x z = [] := by rw [wrM, if_neg (by rw [h]; decide)]
    have e2 : wrE kk f t a r x z = 2 := by rw [wrE, if_neg (by rw [h]; decide)]
    exact ⟨none, 0, ⟨rfl, by rw [e1]; rfl, rfl⟩, e2.symm, rfl, by rw [e1]; rfl, rfl, e1, by rw [e1]; rfl⟩
  · have hl : v.length = 8 * j.toNat := by rw [hv, wrR_length]
    refine ⟨by rw [BY1, ei8_length]; omega, fun q' hq' => ⟨by omega, by omega, j + 1, v ++ ei8 ([kk, f, t, a, r].getD j.toNat 0), by simp, rfl, by simp, rfl, by simp, by omega, by omega, ?_, by simpa using hq', by omega⟩⟩
    rw [show (j + 1).toNat = j.toNat + 1 by omega, hv]; rfl
  · have hl : v.length = 8 * j.toNat := by rw [hv, wrR_length]
    have hj : j.toNat = 5 := by omega
    rw [hj] at hv hl
    have eM : wrM kk f t a r x z = v ++ x ++ z := by rw [wrM, if_pos h, hv]
    have eL : (wrM kk f t a r x z).length = v.length + 32 + 32 := by rw [eM]; simp [hx, hz]
    exact ⟨by rw [BY1]; omega, fun q hq => ⟨by rw [BY1]; omega, fun q' hq' => ⟨eL.symm, by rw [wrE, if_pos h], eL.symm, eM.symm, eL.symm⟩⟩⟩
noncomputable def con_rwrite7 : Con Xp.P FMp := ⟨103, sg_rwrite7, pr_rwrite7, ps_rwrite7, vc_ok (La := la_rwrite7) (Ca := ca_rwrite7) 300 (fn := Go.Proofs.Try.f103) (by kernel_rfl) (c := cd_rwrite7) (by kernel_rfl) (by kernel_rfl) (by kernel_rfl) (by kernel_rfl) (fun ⟨⟨kk, ⟨f, ⟨t, ⟨a, ⟨r, ⟨x, ⟨z, ⟨⟩⟩⟩⟩⟩⟩⟩⟩, ⟨⟩⟩ => vc_rwrite7 kk f t a r x z)⟩
noncomputable def cd_stot6 : Code := (Go.Proofs.Try.f47.body).getD .skip
def sg_stot6 : List Arg := [.ag [.rcs 1 32, .slr 2]]
def pr_stot6 : SgT FMp sg_stot6 → List Prop
  | ((acc, ((A, (ou, c)), ())), ()) => (fun (acc : List (Int × Int × List Int)) (A : Option Addr) (ou : List (Int × Int)) (c : Nat) => ([a64 acc] : List Prop)) acc A ou c
def ps_stot6 : SgT FMp sg_stot6 → PS FMp
  | ((acc, ((A, (ou, c)), ())), ()) => (fun (acc : List (Int × Int × List Int)) (A : Option Addr) (ou : List (Int × Int)) (c : Nat) => (⟨Unit, fun y => [], fun y => .tup [.one (.xv (.int .u64 (stV acc))), .one (.xv (.int .i64 (stE acc)))], fun y => [], fun y => []⟩ : PS FMp)) acc A ou c
def la_stot6 : SgT FMp sg_stot6 → List (Nat × (SS FMp → HA FMp))
  | ((acc, ((A, (ou, c)), ())), ()) => (fun (acc : List (Int × Int × List Int)) (A : Option Addr) (ou : List (Int × Int)) (c : Nat) => ([(3, fun S => ⟨Int × Int, fun y => [], fun n y => [(9, some (one (.int .i64 (y.1)))), (4, some (one (.int .u64 (y.2))))], fun n y => S.m, fun y => [0 ≤ y.1, y.1 ≤ 32, y.2 = sumA acc y.1.toNat, y.2 ≤ 4611686018427387904], fun y => (32 - y.1).toNat⟩)] : List (Nat × (SS FMp → HA FMp)))) acc A ou c
def ca_stot6 : SgT FMp sg_stot6 → List (Nat × (SS FMp → HA FMp))
  | ((acc, ((A, (ou, c)), ())), ()) => (fun (acc : List (Int × Int × List Int)) (A : Option Addr) (ou : List (Int × Int)) (c : Nat) => ([] : List (Nat × (SS FMp → HA FMp)))) acc A ou c
theorem vc_stot6 (acc : List (Int × Int × List Int)) (A : Option Addr) (ou : List (Int × Int)) (c : Nat) : Vc (vc (FM := FMp) Xp 28 [] (la_stot6 ((acc, ((A, (ou, c)), ())), ())) (ca_stot6 ((acc, ((A, (ou, c)), ())), ())) [] [] [.tmp 2, .tmp 3] sg_stot6 pr_stot6 ps_stot6 cd_stot6 300 ((acc, ((A, (ou, c)), ())), ())) := by
  refine ⟨Eq.mpr (β := acc.length = (32 : Nat) → (∀ (a : Int × Int × List Int), List.Mem a acc → a.2.2.length = (32 : Nat)) → (∀ (a : Int × Int), a ∈ ou → True) → a64 acc → ∀ (b : Nat), (∃ (y : Int × Int), (0 : Int) = y.1 ∧ (0 : Int) = y.2 ∧ acc = acc ∧ (32 : Nat) = (32 : Nat) ∧ ou.length = ou.length ∧ c = c ∧ (0 : Int) ≤ y.1 ∧ y.1 ≤ (32 : Int) ∧ y.2 = sumA acc y.1.toNat ∧ y.2 ≤ (4611686018427387904 : Int)) ∧ ∀ (y : Int × Int), acc.length = (32 : Nat) → (∀ (a : Int × Int × List Int), a ∈ acc → a.2.2.length = (32 : Nat)) → (0 : Int) ≤ y.1 → y.1 ≤ (32 : Int) → y.2 = sumA acc y.1.toNat → y.2 ≤ (4611686018427387904 : Int) → (decide (y.1 < (32 : Int)) = true → (0 : Int) ≤ y.1 ∧ y.1 < (32 : Int) ∧ y.1.toNat < (32 : Nat) ∧ ∀ (b : Nat), ((decide ((4611686018427387904 : Int) < (acc.getD y.1.toNat ((0, 0, List.replicate 32 0) : Int × Int × List Int)).1) || decide ((4611686018427387904 : Int) < IntKind.u64.wrap (y.2 + (acc.getD y.1.toNat ((0, 0, List.replicate 32 0) : Int × Int × List Int)).1))) = true → ∃ (y : Unit), (0 : Int) = stV acc ∧ (4 : Int) = stE acc) ∧ ((decide ((4611686018427387904 : Int) < (acc.getD y.1.toNat ((0, 0, List.replicate 32 0) : Int × Int × List Int)).1) || decide ((4611686018427387904 : Int) < IntKind.u64.wrap (y.2 + (acc.getD y.1.toNat ((0, 0, List.replicate 32 0) : Int × Int × List Int)).1))) = false → (-9223372036854775808 : Int) ≤ y.1 + (1 : Int) ∧ y.1 + (1 : Int) ≤ (9223372036854775807 : Int) ∧ ∃ (y_1 : Int × Int), y.1 + (1 : Int) = y_1.1 ∧ IntKind.u64.wrap (y.2 + (acc.getD y.1.toNat ((0, 0, List.replicate 32 0) : Int × Int × List Int)).1) = y_1.2 ∧ acc = acc ∧ (32 : Nat) = (32 : Nat) ∧ ou.length = ou.length ∧ c = c ∧ (0 : Int) ≤ y_1.1 ∧ y_1.1 ≤ (32 : Int) ∧ y_1.2 = sumA acc y_1.1.toNat ∧ y_1.2 ≤ (4611686018427387904 : Int) ∧ ((32 : Int) - y_1.1).toNat < ((32 : Int) - y.1).toNat)) ∧ (decide (y.1 < (32 : Int)) = false → ∃ (y_1 : Unit), y.2 = stV acc ∧ (0 : Int) = stE acc)) (by kernel_rfl) ?_⟩
  simp only [imin, imax, decide_eq_true_eq, decide_eq_false_iff_not, Prod.forall, Prod.exists, exists_eq_left', exists_eq_left, exists_and_left, exists_and_right, exists_eq_right, exists_eq, exists_eq', true_and, and_true, forall_const, exists_const, eq_self, Bool.not_eq_true, Bool.not_eq_eq_eq_not, Bool.not_true, Bool.not_false, Value.slice.injEq, Option.getD_some, imp_self, implies_true, Option.some.injEq, Addr.mk.injEq, true_or, or_true, List.length_cons, List.length_nil, Nat.zero_add, Nat.reduceAdd]
  intro hp hw hr
  refine ⟨⟨by omega, by omega, rfl, by omega⟩, fun k t _ _ h0 h1 ht h2 => ⟨fun h3 => ?_, fun h3 => ?_⟩⟩
  · have hx := hr k.toNat
    have hnn := sumA_nn hr k.toNat
    have e : sumA acc (k.toNat + 1) = sumA acc k.toNat + (acc.getD k.toNat (0, 0, List.replicate 32 0)).1 := rfl
    have e1 : (k + 1).toNat = k.toNat + 1 := by omega
    have hm := sumA_mono hr (show k.toNat + 1 ≤ 32 by omega)
    refine ⟨h0, h3, by omega, fun h => ?_, fun h => ?_⟩
    · have hn : ¬ stOk acc := by
        intro o
        unfold stOk at o
        simp only [Bool.or_eq_true, decide_eq_true_eq] at h
        rw [wrap64] at h
        rcases h with h | h <;> omega
      exact ⟨by rw [stV, if_neg hn], by rw [stE, if_neg hn]⟩
    · simp only [Bool.or_eq_false_iff, decide_eq_false_iff_not] at h
      rw [wrap64] at h ⊢
      rw [Int.emod_eq_of_lt (by omega) (by omega)] at h ⊢
      exact ⟨by omega, by omega, by omega, by omega, by rw [e1, e, ht], by omega, by omega⟩
  · have hk : k.toNat = 32 := by omega
    have o : stOk acc := by rw [stOk, ← hk, ← ht]; exact h2
    exact ⟨by rw [stV, if_pos o, ht, hk], by rw [stE, if_pos o]⟩
noncomputable def con_stot6 : Con Xp.P FMp := ⟨47, sg_stot6, pr_stot6, ps_stot6, vc_ok (La := la_stot6) (Ca := ca_stot6) 300 (fn := Go.Proofs.Try.f47) (by kernel_rfl) (c := cd_stot6) (by kernel_rfl) (by kernel_rfl) (by kernel_rfl) (by kernel_rfl) (fun ⟨⟨acc, ⟨⟨A, ⟨ou, c⟩⟩, ⟨⟩⟩⟩, ⟨⟩⟩ => vc_stot6 acc A ou c)⟩
noncomputable def cd_smay6 : Code := (Go.Proofs.Try.f49.body).getD .skip
def sg_smay6 : List Arg := [.ag [.rcs 1 32, .slr 2]]
def pr_smay6 : SgT FMp sg_smay6 → List Prop
  | ((acc, ((A, (ou, c)), ())), ()) => (fun (acc : List (Int × Int × List Int)) (A : Option Addr) (ou : List (Int × Int)) (c : Nat) => ([a64 acc] : List Prop)) acc A ou c
def ps_smay6 : SgT FMp sg_smay6 → PS FMp
  | ((acc, ((A, (ou, c)), ())), ()) => (fun (acc : List (Int × Int × List Int)) (A : Option Addr) (ou : List (Int × Int)) (c : Nat) => (⟨Unit, fun y => [], fun y => one (.bool (smOk acc ou)), fun y => [], fun y => []⟩ : PS FMp)) acc A ou c
def la_smay6 : SgT FMp sg_smay6 → List (Nat × (SS FMp → HA FMp))
  | ((acc, ((A, (ou, c)), ())), ()) => (fun (acc : List (Int × Int × List Int)) (A : Option Addr) (ou : List (Int × Int)) (c : Nat) => ([] : List (Nat × (SS FMp → HA FMp)))) acc A ou c
def ca_smay6 : SgT FMp sg_smay6 → List (Nat × (SS FMp → HA FMp))
  | ((acc, ((A, (ou, c)), ())), ()) => (fun (acc : List (Int × Int × List Int)) (A : Option Addr) (ou : List (Int × Int)) (c : Nat) => ([] : List (Nat × (SS FMp → HA FMp)))) acc A ou c
theorem vc_smay6 (acc : List (Int × Int × List Int)) (A : Option Addr) (ou : List (Int × Int)) (c : Nat) : Vc (vc (FM := FMp) Xp 18 [con_stot6] (la_smay6 ((acc, ((A, (ou, c)), ())), ())) (ca_smay6 ((acc, ((A, (ou, c)), ())), ())) [] [] [.tmp 2] sg_smay6 pr_smay6 ps_smay6 cd_smay6 300 ((acc, ((A, (ou, c)), ())), ())) := by
  refine ⟨Eq.mpr (β := acc.length = (32 : Nat) → (∀ (a : Int × Int × List Int), List.Mem a acc → a.2.2.length = (32 : Nat)) → (∀ (a : Int × Int), a ∈ ou → True) → a64 acc → ∀ (b : Nat), ou.length = ou.length ∧ a64 acc ∧ ∀ (y : Unit), ∃ (y : Unit), (decide (stE acc = (0 : Int)) && decide ((↑ou.length : Int) ≤ (32 : Int))) = smOk acc ou) (by kernel_rfl) ?_⟩
  simp only [imin, imax, decide_eq_true_eq, decide_eq_false_iff_not, Prod.forall, Prod.exists, exists_eq_left', exists_eq_left, exists_and_left, exists_and_right, exists_eq_right, exists_eq, exists_eq', true_and, and_true, forall_const, exists_const, eq_self, Bool.not_eq_true, Bool.not_eq_eq_eq_not, Bool.not_true, Bool.not_false, Value.slice.injEq, Option.getD_some, imp_self, implies_true, Option.some.injEq, Addr.mk.injEq, true_or, or_true, List.length_cons, List.length_nil, Nat.zero_add, Nat.reduceAdd]
  intro _ _ h
  refine ⟨h, ?_⟩
  unfold smOk
  congr 1
  rw [decide_eq_decide]
  omega
noncomputable def con_smay6 : Con Xp.P FMp := ⟨49, sg_smay6, pr_smay6, ps_smay6, vc_ok (La := la_smay6) (Ca := ca_smay6) 300 (fn := Go.Proofs.Try.f49) (by kernel_rfl) (c := cd_smay6) (by kernel_rfl) (by kernel_rfl) (by kernel_rfl) (by kernel_rfl) (fun ⟨⟨acc, ⟨⟨A, ⟨ou, c⟩⟩, ⟨⟩⟩⟩, ⟨⟩⟩ => vc_smay6 acc A ou c)⟩
noncomputable def cd_sowed : Code := (Go.Proofs.Try.f56.body).getD .skip
def sg_sowed : List Arg := [.ag [.int .u64, .int .u64, .rcs 7 32], .ag [.rcs 1 32, .slr 2]]
def pr_sowed : SgT FMp sg_sowed → List Prop
  | ((i, (o, (sp, ()))), ((acc, ((A, (ou, c)), ())), ())) => (fun (i o : Int) (sp : List Bool) (acc : List (Int × Int × List Int)) (A : Option Addr) (ou : List (Int × Int)) (c : Nat) => ([a64 acc, ∀ j, (0 ≤ (ou.getD j (0, 0)).1 ∧ (ou.getD j (0, 0)).1 < 18446744073709551616) ∧ (0 ≤ (ou.getD j (0, 0)).2 ∧ (ou.getD j (0, 0)).2 < 18446744073709551616)] : List Prop)) i o sp acc A ou c
def ps_sowed : SgT FMp sg_sowed → PS FMp
  | ((i, (o, (sp, ()))), ((acc, ((A, (ou, c)), ())), ())) => (fun (i o : Int) (sp : List Bool) (acc : List (Int × Int × List Int)) (A : Option Addr) (ou : List (Int × Int)) (c : Nat) => (⟨Unit, fun y => [], fun y => .tup [.one (.xv (.int .u64 (owV sp acc ou))), .one (.xv (.int .i64 (owE sp acc ou)))], fun y => [], fun y => []⟩ : PS FMp)) i o sp acc A ou c
def la_sowed : SgT FMp sg_sowed → List (Nat × (SS FMp → HA FMp))
  | ((i, (o, (sp, ()))), ((acc, ((A, (ou, c)), ())), ())) => (fun (i o : Int) (sp : List Bool) (acc : List (Int × Int × List Int)) (A : Option Addr) (ou : List (Int × Int)) (c : Nat) => ([(5, fun S => ⟨Int × Int, fun y => [], fun n y => [(15, some (one (.int .i64 (y.1)))), (6, some (one (.int .u64 (y.2))))], fun n y => S.m, fun y => [0 ≤ y.1, y.1 ≤ ou.length, y.2 = owN sp ou y.1.toNat, y.2 ≤ 4611686018427387904], fun y => (ou.length - y.1).toNat⟩)] : List (Nat × (SS FMp → HA FMp)))) i o sp acc A ou c
def ca_sowed : SgT FMp sg_sowed → List (Nat × (SS FMp → HA FMp))
  | ((i, (o, (sp, ()))), ((acc, ((A, (ou, c)), ())), ())) => (fun (i o : Int) (sp : List Bool) (acc : List (Int × Int × List Int)) (A : Option Addr) (ou : List (Int × Int)) (c : Nat) => ([] : List (Nat × (SS FMp → HA FMp)))) i o sp acc A ou c
theorem vc_sowed (i o : Int) (sp : List Bool) (acc : List (Int × Int × List Int)) (A : Option Addr) (ou : List (Int × Int)) (c : Nat) : Vc (vc (FM := FMp) Xp 40 [con_smay6] (la_sowed ((i, (o, (sp, ()))), ((acc, ((A, (ou, c)), ())), ()))) (ca_sowed ((i, (o, (sp, ()))), ((acc, ((A, (ou, c)), ())), ()))) [] [] [.tmp 4, .tmp 5] sg_sowed pr_sowed ps_sowed cd_sowed 300 ((i, (o, (sp, ()))), ((acc, ((A, (ou, c)), ())), ()))) := by
  refine ⟨Eq.mpr (β := sp.length = (32 : Nat) → (∀ (a : Bool), List.Mem a sp → True) → acc.length = (32 : Nat) → (∀ (a : Int × Int × List Int), List.Mem a acc → a.2.2.length = (32 : Nat)) → (∀ (a : Int × Int), a ∈ ou → True) → a64 acc → (∀ (j : Nat), ((0 : Int) ≤ (ou.getD j ((0 : Int), (0 : Int))).1 ∧ (ou.getD j ((0 : Int), (0 : Int))).1 < (18446744073709551616 : Int)) ∧ (0 : Int) ≤ (ou.getD j ((0 : Int), (0 : Int))).2 ∧ (ou.getD j ((0 : Int), (0 : Int))).2 < (18446744073709551616 : Int)) → ∀ (b b : Nat), ou.length = ou.length ∧ a64 acc ∧ ∀ (y : Unit), ((!smOk acc ou) = true → ∃ (y : Unit), (0 : Int) = owV sp acc ou ∧ (2 : Int) = owE sp acc ou) ∧ ((!smOk acc ou) = false → (∃ (y : Int × Int), (0 : Int) = y.1 ∧ (0 : Int) = y.2 ∧ acc = acc ∧ (32 : Nat) = (32 : Nat) ∧ ou.length = ou.length ∧ c = c ∧ i = i ∧ o = o ∧ sp = sp ∧ (32 : Nat) = (32 : Nat) ∧ (0 : Int) ≤ y.1 ∧ y.1 ≤ (↑ou.length : Int) ∧ y.2 = owN sp ou y.1.toNat ∧ y.2 ≤ (4611686018427387904 : Int)) ∧ ∀ (y : Int × Int), acc.length = (32 : Nat) → (∀ (a : Int × Int × List Int), a ∈ acc → a.2.2.length = (32 : Nat)) → sp.length = (32 : Nat) → (∀ (a : Bool), a ∈ sp → True) → (0 : Int) ≤ y.1 → y.1 ≤ (↑ou.length : Int) → y.2 = owN sp ou y.1.toNat → y.2 ≤ (4611686018427387904 : Int) → (decide (y.1 < (↑ou.length : Int)) = true → (0 : Int) ≤ y.1 ∧ y.1 < (↑ou.length : Int) ∧ y.1.toNat < ou.length ∧ y.1.toNat < ou.length ∧ ∀ (b : Nat), (0 : Int) ≤ y.1 ∧ y.1 < (32 : Int) ∧ y.1.toNat < (32 : Nat) ∧ (sp.getD y.1.toNat false = true → (-9223372036854775808 : Int) ≤ y.1 + (1 : Int) ∧ y.1 + (1 : Int) ≤ (9223372036854775807 : Int) ∧ ∃ (y_1 : Int × Int), y.1 + (1 : Int) = y_1.1 ∧ y.2 = y_1.2 ∧ acc = acc ∧ (32 : Nat) = (32 : Nat) ∧ ou.length = ou.length ∧ c = c ∧ i = i ∧ o = o ∧ sp = sp ∧ (32 : Nat) = (32 : Nat) ∧ (0 : Int) ≤ y_1.1 ∧ y_1.1 ≤ (↑ou.length : Int) ∧ y_1.2 = owN sp ou y_1.1.toNat ∧ y_1.2 ≤ (4611686018427387904 : Int) ∧ ((↑ou.length : Int) - y_1.1).toNat < ((↑ou.length : Int) - y.1).toNat) ∧ (sp.getD y.1.toNat false = false → ((decide ((4611686018427387904 : Int) < (ou.getD y.1.toNat ((0, 0) : Int × Int)).2) || decide ((4611686018427387904 : Int) < IntKind.u64.wrap (y.2 + (ou.getD y.1.toNat ((0, 0) : Int × Int)).2))) = true → ∃ (y : Unit), (0 : Int) = owV sp acc ou ∧ (4 : Int) = owE sp acc ou) ∧ ((decide ((4611686018427387904 : Int) < (ou.getD y.1.toNat ((0, 0) : Int × Int)).2) || decide ((4611686018427387904 : Int) < IntKind.u64.wrap (y.2 + (ou.getD y.1.toNat ((0, 0) : Int × Int)).2))) = false → (-9223372036854775808 : Int) ≤ y.1 + (1 : Int) ∧ y.1 + (1 : Int) ≤ (9223372036854775807 : Int) ∧ ∃ (y_1 : Int × Int), y.1 + (1 : Int) = y_1.1 ∧ IntKind.u64.wrap (y.2 + (ou.getD y.1.toNat ((0, 0) : Int × Int)).2) = y_1.2 ∧ acc = acc ∧ (32 : Nat) = (32 : Nat) ∧ ou.length = ou.length ∧ c = c ∧ i = i ∧ o = o ∧ sp = sp ∧ (32 : Nat) = (32 : Nat) ∧ (0 : Int) ≤ y_1.1 ∧ y_1.1 ≤ (↑ou.length : Int) ∧ y_1.2 = owN sp ou y_1.1.toNat ∧ y_1.2 ≤ (4611686018427387904 : Int) ∧ ((↑ou.length : Int) - y_1.1).toNat < ((↑ou.length : Int) - y.1).toNat))) ∧ (decide (y.1 < (↑ou.length : Int)) = false → ∃ (y_1 : Unit), y.2 = owV sp acc ou ∧ (0 : Int) = owE sp acc ou))) (by kernel_rfl) ?_⟩
  simp only [imin, imax, decide_eq_true_eq, decide_eq_false_iff_not, Prod.forall, Prod.exists, exists_eq_left', exists_eq_left, exists_and_left, exists_and_right, exists_eq_right, exists_eq, exists_eq', true_and, and_true, forall_const, exists_const, eq_self, Bool.not_eq_true, Bool.not_eq_eq_eq_not, Bool.not_true, Bool.not_false, Value.slice.injEq, Option.getD_some, imp_self, implies_true, Option.some.injEq, Addr.mk.injEq, true_or, or_true, List.length_cons, List.length_nil, Nat.zero_add, Nat.reduceAdd]
  intro hsp hac hlk ha hO
  refine ⟨ha, fun h => ⟨by rw [owV, if_neg (fun o => by rw [o.1] at h; cases h)], by rw [owE, if_neg (by rw [h]; decide)]⟩, fun h => ⟨⟨by omega, by omega, rfl, by omega⟩, fun k t _ _ _ h0 h1 ht h2 => ⟨fun h3 => ?_, fun h3 => ?_⟩⟩⟩
  · have h32 := smOk_len h
    have hnn := owN_nn hO (sp := sp) k.toNat
    have hx := hO k.toNat
    have e1 : (k + 1).toNat = k.toNat + 1 := by omega
    have e : owN sp ou (k.toNat + 1) = owN sp ou k.toNat + if sp.getD k.toNat false = true then 0 else (ou.getD k.toNat (0, 0)).2 := rfl
    have hm := owN_mono hO (sp := sp) (show k.toNat + 1 ≤ ou.length by omega)
    refine ⟨h0, h3, by omega, by omega, h0, by omega, by omega, fun hs => ?_, fun hs => ?_⟩
    · rw [if_pos hs] at e
      exact ⟨by omega, by omega, by omega, by omega, by rw [e1, e, ht]; omega, h2, by omega⟩
    · rw [if_neg (by rw [hs]; decide)] at e
      refine ⟨fun hh => ow_bad h (fun o => ?_), fun hh => ?_⟩
      · unfold owOk at o
        simp only [Bool.or_eq_true, decide_eq_true_eq] at hh
        rw [wrap64] at hh
        rcases hh with hh | hh <;> omega
      · simp only [Bool.or_eq_false_iff, decide_eq_false_iff_not] at hh
        rw [wrap64] at hh ⊢
        rw [Int.emod_eq_of_lt (by omega) (by omega)] at hh ⊢
        exact ⟨by omega, by omega, by omega, by omega, by rw [e1, e, ht], by omega, by omega⟩
  · exact ow_good h (show t = owN sp ou ou.length by rw [ht, show k.toNat = ou.length by omega]) h2
noncomputable def con_sowed : Con Xp.P FMp := ⟨56, sg_sowed, pr_sowed, ps_sowed, vc_ok (La := la_sowed) (Ca := ca_sowed) 300 (fn := Go.Proofs.Try.f56) (by kernel_rfl) (c := cd_sowed) (by kernel_rfl) (by kernel_rfl) (by kernel_rfl) (by kernel_rfl) (fun ⟨⟨i, ⟨o, ⟨sp, ⟨⟩⟩⟩⟩, ⟨⟨acc, ⟨⟨A, ⟨ou, c⟩⟩, ⟨⟩⟩⟩, ⟨⟩⟩⟩ => vc_sowed i o sp acc A ou c)⟩
noncomputable def cd_rowed : Code := (Go.Proofs.Try.f57.body).getD .skip
def sg_rowed : List Arg := [.ag [.int .u64, .int .u64, .rcs 7 32], .ag [.rcs 1 32, .slr 2]]
def pr_rowed : SgT FMp sg_rowed → List Prop
  | ((i, (o, (sp, ()))), ((acc, ((A, (ou, c)), ())), ())) => (fun (i o : Int) (sp : List Bool) (acc : List (Int × Int × List Int)) (A : Option Addr) (ou : List (Int × Int)) (c : Nat) => ([a64 acc, ∀ j, (0 ≤ (ou.getD j (0, 0)).1 ∧ (ou.getD j (0, 0)).1 < 18446744073709551616) ∧ (0 ≤ (ou.getD j (0, 0)).2 ∧ (ou.getD j (0, 0)).2 < 18446744073709551616)] : List Prop)) i o sp acc A ou c
def ps_rowed : SgT FMp sg_rowed → PS FMp
  | ((i, (o, (sp, ()))), ((acc, ((A, (ou, c)), ())), ())) => (fun (i o : Int) (sp : List Bool) (acc : List (Int × Int × List Int)) (A : Option Addr) (ou : List (Int × Int)) (c : Nat) => (⟨Unit, fun y => [], fun y => .tup [.one (.xv (.int .u64 (owV sp acc ou))), .one (.xv (.int .i64 (owE sp acc ou)))], fun y => [], fun y => []⟩ : PS FMp)) i o sp acc A ou c
def la_rowed : SgT FMp sg_rowed → List (Nat × (SS FMp → HA FMp))
  | ((i, (o, (sp, ()))), ((acc, ((A, (ou, c)), ())), ())) => (fun (i o : Int) (sp : List Bool) (acc : List (Int × Int × List Int)) (A : Option Addr) (ou : List (Int × Int)) (c : Nat) => ([(5, fun S => ⟨Int × Int, fun y => [], fun n y => [(7, some (one (.int .i64 (y.1)))), (6, some (one (.int .u64 (y.2))))], fun n y => S.m, fun y => [0 ≤ y.1, y.1 ≤ ou.length, y.2 = owN sp ou y.1.toNat, y.2 ≤ 4611686018427387904], fun y => (ou.length - y.1).toNat⟩)] : List (Nat × (SS FMp → HA FMp)))) i o sp acc A ou c
def ca_rowed : SgT FMp sg_rowed → List (Nat × (SS FMp → HA FMp))
  | ((i, (o, (sp, ()))), ((acc, ((A, (ou, c)), ())), ())) => (fun (i o : Int) (sp : List Bool) (acc : List (Int × Int × List Int)) (A : Option Addr) (ou : List (Int × Int)) (c : Nat) => ([] : List (Nat × (SS FMp → HA FMp)))) i o sp acc A ou c
theorem vc_rowed (i o : Int) (sp : List Bool) (acc : List (Int × Int × List Int)) (A : Option Addr) (ou : List (Int × Int)) (c : Nat) : Vc (vc (FM := FMp) Xp 40 [con_rmay6] (la_rowed ((i, (o, (sp, ()))), ((acc, ((A, (ou, c)), ())), ()))) (ca_rowed ((i, (o, (sp, ()))), ((acc, ((A, (ou, c)), ())), ()))) [] [] [.tmp 4, .tmp 5] sg_rowed pr_rowed ps_rowed cd_rowed 300 ((i, (o, (sp, ()))), ((acc, ((A, (ou, c)), ())), ()))) := by
  refine ⟨Eq.mpr (β := sp.length = (32 : Nat) → (∀ (a : Bool), List.Mem a sp → True) → acc.length = (32 : Nat) → (∀ (a : Int × Int × List Int), List.Mem a acc → a.2.2.length = (32 : Nat)) → (∀ (a : Int × Int), a ∈ ou → True) → a64 acc → (∀ (j : Nat), ((0 : Int) ≤ (ou.getD j ((0 : Int), (0 : Int))).1 ∧ (ou.getD j ((0 : Int), (0 : Int))).1 < (18446744073709551616 : Int)) ∧ (0 : Int) ≤ (ou.getD j ((0 : Int), (0 : Int))).2 ∧ (ou.getD j ((0 : Int), (0 : Int))).2 < (18446744073709551616 : Int)) → ∀ (b b : Nat), ou.length = ou.length ∧ a64 acc ∧ ∀ (y : Unit), ((!(decide (stE acc = (0 : Int)) && decide (ou.length ≤ (32 : Nat)))) = true → ∃ (y : Unit), (0 : Int) = owV sp acc ou ∧ (2 : Int) = owE sp acc ou) ∧ ((!(decide (stE acc = (0 : Int)) && decide (ou.length ≤ (32 : Nat)))) = false → (∃ (y : Int × Int), (0 : Int) = y.1 ∧ (0 : Int) = y.2 ∧ acc = acc ∧ (32 : Nat) = (32 : Nat) ∧ ou.length = ou.length ∧ c = c ∧ i = i ∧ o = o ∧ sp = sp ∧ (32 : Nat) = (32 : Nat) ∧ (0 : Int) ≤ y.1 ∧ y.1 ≤ (↑ou.length : Int) ∧ y.2 = owN sp ou y.1.toNat ∧ y.2 ≤ (4611686018427387904 : Int)) ∧ ∀ (y : Int × Int), acc.length = (32 : Nat) → (∀ (a : Int × Int × List Int), a ∈ acc → a.2.2.length = (32 : Nat)) → sp.length = (32 : Nat) → (∀ (a : Bool), a ∈ sp → True) → (0 : Int) ≤ y.1 → y.1 ≤ (↑ou.length : Int) → y.2 = owN sp ou y.1.toNat → y.2 ≤ (4611686018427387904 : Int) → (decide (y.1 < (↑ou.length : Int)) = true → (0 : Int) ≤ y.1 ∧ y.1 < (32 : Int) ∧ y.1.toNat < (32 : Nat) ∧ (sp.getD y.1.toNat false = true → (-9223372036854775808 : Int) ≤ y.1 + (1 : Int) ∧ y.1 + (1 : Int) ≤ (9223372036854775807 : Int) ∧ ∃ (y_1 : Int × Int), y.1 + (1 : Int) = y_1.1 ∧ y.2 = y_1.2 ∧ acc = acc ∧ (32 : Nat) = (32 : Nat) ∧ ou.length = ou.length ∧ c = c ∧ i = i ∧ o = o ∧ sp = sp ∧ (32 : Nat) = (32 : Nat) ∧ (0 : Int) ≤ y_1.1 ∧ y_1.1 ≤ (↑ou.length : Int) ∧ y_1.2 = owN sp ou y_1.1.toNat ∧ y_1.2 ≤ (4611686018427387904 : Int) ∧ ((↑ou.length : Int) - y_1.1).toNat < ((↑ou.length : Int) - y.1).toNat) ∧ (sp.getD y.1.toNat false = false → (0 : Int) ≤ y.1 ∧ y.1 < (↑ou.length : Int) ∧ y.1.toNat < ou.length ∧ y.1.toNat < ou.length ∧ (decide (IntKind.u64.wrap ((4611686018427387904 : Int) - y.2) < (ou.getD y.1.toNat ((0, 0) : Int × Int)).2) = true → ∃ (y : Unit), (0 : Int) = owV sp acc ou ∧ (4 : Int) = owE sp acc ou) ∧ (decide (IntKind.u64.wrap ((4611686018427387904 : Int) - y.2) < (ou.getD y.1.toNat ((0, 0) : Int × Int)).2) = false → (0 : Int) ≤ y.1 ∧ y.1 < (↑ou.length : Int) ∧ y.1.toNat < ou.length ∧ y.1.toNat < ou.length ∧ (-9223372036854775808 : Int) ≤ y.1 + (1 : Int) ∧ y.1 + (1 : Int) ≤ (9223372036854775807 : Int) ∧ ∃ (y_1 : Int × Int), y.1 + (1 : Int) = y_1.1 ∧ IntKind.u64.wrap (y.2 + (ou.getD y.1.toNat ((0, 0) : Int × Int)).2) = y_1.2 ∧ acc = acc ∧ (32 : Nat) = (32 : Nat) ∧ ou.length = ou.length ∧ c = c ∧ i = i ∧ o = o ∧ sp = sp ∧ (32 : Nat) = (32 : Nat) ∧ (0 : Int) ≤ y_1.1 ∧ y_1.1 ≤ (↑ou.length : Int) ∧ y_1.2 = owN sp ou y_1.1.toNat ∧ y_1.2 ≤ (4611686018427387904 : Int) ∧ ((↑ou.length : Int) - y_1.1).toNat < ((↑ou.length : Int) - y.1).toNat))) ∧ (decide (y.1 < (↑ou.length : Int)) = false → ∃ (y_1 : Unit), y.2 = owV sp acc ou ∧ (0 : Int) = owE sp acc ou))) (by kernel_rfl) ?_⟩
  simp only [imin, imax, decide_eq_true_eq, decide_eq_false_iff_not, Prod.forall, Prod.exists, exists_eq_left', exists_eq_left, exists_and_left, exists_and_right, exists_eq_right, exists_eq, exists_eq', true_and, and_true, forall_const, exists_const, eq_self, Bool.not_eq_true, Bool.not_eq_eq_eq_not, Bool.not_true, Bool.not_false, Value.slice.injEq, Option.getD_some, imp_self, implies_true, Option.some.injEq, Addr.mk.injEq, true_or, or_true, List.length_cons, List.length_nil, Nat.zero_add, Nat.reduceAdd]
  intro hsp hac hlk ha hO
  refine ⟨ha, fun h => ⟨by rw [owV, if_neg (fun o => by rw [smOk, h] at o; cases o.1)], by rw [owE, if_neg (by rw [smOk, h]; decide)]⟩, fun h => ⟨⟨by omega, by omega, rfl, by omega⟩, fun k t _ _ _ h0 h1 ht h2 => ⟨fun h3 => ?_, fun h3 => ?_⟩⟩⟩
  all_goals (have h : smOk acc ou = true := h)
  · have h32 := smOk_len h
    have hnn := owN_nn hO (sp := sp) k.toNat
    have hx := hO k.toNat
    have e1 : (k + 1).toNat = k.toNat + 1 := by omega
    have e : owN sp ou (k.toNat + 1) = owN sp ou k.toNat + if sp.getD k.toNat false = true then 0 else (ou.getD k.toNat (0, 0)).2 := rfl
    have hm := owN_mono hO (sp := sp) (show k.toNat + 1 ≤ ou.length by omega)
    have hw1 : IntKind.u64.wrap (4611686018427387904 - t) = 4611686018427387904 - t := by rw [wrap64, Int.emod_eq_of_lt (by omega) (by omega)]
    rw [hw1]
    refine ⟨h0, by omega, by omega, fun hs => ?_, fun hs => ⟨h0, h3, by omega, by omega, fun hh => ow_bad h (fun o => ?_), fun hh => ?_⟩⟩
    · rw [if_pos hs] at e
      exact ⟨by omega, by omega, by omega, by omega, by rw [e1, e, ht]; omega, h2, by omega⟩
    · rw [if_neg (by rw [hs]; decide)] at e
      unfold owOk at o
      omega
    · rw [if_neg (by rw [hs]; decide)] at e
      rw [wrap64, Int.emod_eq_of_lt (by omega) (by omega)]
      exact ⟨h0, h3, by omega, by omega, by omega, by omega, by omega, by omega, by rw [e1, e, ht], by omega, by omega⟩
  · exact ow_good h (show t = owN sp ou ou.length by rw [ht, show k.toNat = ou.length by omega]) h2
noncomputable def con_rowed : Con Xp.P FMp := ⟨57, sg_rowed, pr_rowed, ps_rowed, vc_ok (La := la_rowed) (Ca := ca_rowed) 300 (fn := Go.Proofs.Try.f57) (by kernel_rfl) (c := cd_rowed) (by kernel_rfl) (by kernel_rfl) (by kernel_rfl) (by kernel_rfl) (fun ⟨⟨i, ⟨o, ⟨sp, ⟨⟩⟩⟩⟩, ⟨⟨acc, ⟨⟨A, ⟨ou, c⟩⟩, ⟨⟩⟩⟩, ⟨⟩⟩⟩ => vc_rowed i o sp acc A ou c)⟩
noncomputable def cd_rclaim21 : Code := (Go.Proofs.Try.f55.body).getD .skip
def sg_rclaim21 : List Arg := [.ag [.int .u64, .int .u64, .rcs 7 32], .ag [.arr .u64 16], .ag [.arr .u8 32], .one (.int .i64), .ag [.int .u64, .int .u64], .ag [.slr 0, .arr .u8 32, .int .u64]]
def pr_rclaim21 : SgT FMp sg_rclaim21 → List Prop
  | ((i, (o, (sp, ()))), ((p, ()), ((root, ()), (ix, ((to, (am, ())), (((P, (ps, pc)), (oth, (cnt, ()))), ())))))) => (fun (i o : Int) (sp : List Bool) (p root : List Int) (ix to am : Int) (P : Option Addr) (ps : List (List Int)) (pc : Nat) (oth : List Int) (cnt : Int) => ([0 ≤ to, 0 ≤ am, am < 18446744073709551616, 0 ≤ i, 0 ≤ o, r64 p, ∀ a ∈ ps, rg a, rg oth] : List Prop)) i o sp p root ix to am P ps pc oth cnt
def ps_rclaim21 : SgT FMp sg_rclaim21 → PS FMp
  | ((i, (o, (sp, ()))), ((p, ()), ((root, ()), (ix, ((to, (am, ())), (((P, (ps, pc)), (oth, (cnt, ()))), ())))))) => (fun (i o : Int) (sp : List Bool) (p root : List Int) (ix to am : Int) (P : Option Addr) (ps : List (List Int)) (pc : Nat) (oth : List Int) (cnt : Int) => (⟨Int × Int × (List Bool) × (List Int) × Int, fun y => [], fun y => .tup [.ag [.b (.cl (.xv (.int .u64 (y.1)))), .b (.cl (.xv (.int .u64 (y.2.1)))), .f 7 y.2.2.1 32], .ag (zz .u64 y.2.2.2.1 16), .one (.xv (.int .i64 y.2.2.2.2))], fun y => [], fun y => [clRes i o sp p root ix to am ps oth cnt y.1 y.2.1 y.2.2.1 y.2.2.2.1 y.2.2.2.2, y.2.2.2.1.length = 16, y.2.2.1.length = 32]⟩ : PS FMp)) i o sp p root ix to am P ps pc oth cnt
def la_rclaim21 : SgT FMp sg_rclaim21 → List (Nat × (SS FMp → HA FMp))
  | ((i, (o, (sp, ()))), ((p, ()), ((root, ()), (ix, ((to, (am, ())), (((P, (ps, pc)), (oth, (cnt, ()))), ())))))) => (fun (i o : Int) (sp : List Bool) (p root : List Int) (ix to am : Int) (P : Option Addr) (ps : List (List Int)) (pc : Nat) (oth : List Int) (cnt : Int) => ([] : List (Nat × (SS FMp → HA FMp)))) i o sp p root ix to am P ps pc oth cnt
def ca_rclaim21 : SgT FMp sg_rclaim21 → List (Nat × (SS FMp → HA FMp))
  | ((i, (o, (sp, ()))), ((p, ()), ((root, ()), (ix, ((to, (am, ())), (((P, (ps, pc)), (oth, (cnt, ()))), ())))))) => (fun (i o : Int) (sp : List Bool) (p root : List Int) (ix to am : Int) (P : Option Addr) (ps : List (List Int)) (pc : Nat) (oth : List Int) (cnt : Int) => ([] : List (Nat × (SS FMp → HA FMp)))) i o sp p root ix to am P ps pc oth cnt
theorem vc_rclaim21 (i o : Int) (sp : List Bool) (p root : List Int) (ix to am : Int) (P : Option Addr) (ps : List (List Int)) (pc : Nat) (oth : List Int) (cnt : Int) : Vc (vc (FM := FMp) Xp 73 [con_rmay21, con_rcheckout, con_rpay19] (la_rclaim21 ((i, (o, (sp, ()))), ((p, ()), ((root, ()), (ix, ((to, (am, ())), (((P, (ps, pc)), (oth, (cnt, ()))), ()))))))) (ca_rclaim21 ((i, (o, (sp, ()))), ((p, ()), ((root, ()), (ix, ((to, (am, ())), (((P, (ps, pc)), (oth, (cnt, ()))), ()))))))) [] [] [.cell 12 25, .cell 13 27, .tmp 14] sg_rclaim21 pr_rclaim21 ps_rclaim21 cd_rclaim21 300 ((i, (o, (sp, ()))), ((p, ()), ((root, ()), (ix, ((to, (am, ())), (((P, (ps, pc)), (oth, (cnt, ()))), ()))))))) := by
  refine ⟨Eq.mpr (β := sp.length = (32 : Nat) → (∀ (a : Bool), List.Mem a sp → True) → p.length = (16 : Nat) → root.length = (32 : Nat) → (∀ (a : List Int), a ∈ ps → a.length = (32 : Nat)) → oth.length = (32 : Nat) → (0 : Int) ≤ to → (0 : Int) ≤ am → am < (18446744073709551616 : Int) → (0 : Int) ≤ i → (0 : Int) ≤ o → r64 p → (∀ (a : List Int), a ∈ ps → rg a) → rg oth → ∀ (b b b b b b b : Nat), r64 p ∧ ∀ (y : Unit), ((!bmay p i o || decide ((14 : Int) ≤ to)) = true → ((!decide ((2 : Int) = (0 : Int))) = true → ∃ (y : Int × Int × List Bool × List Int × Int), (0 : Int) = y.1 ∧ (0 : Int) = y.2.1 ∧ List.replicate (32 : Nat) false = y.snd.2.1 ∧ (32 : Nat) = (32 : Nat) ∧ List.replicate (16 : Nat) (0 : Int) = y.snd.snd.2.1 ∧ (16 : Nat) = (16 : Nat) ∧ (2 : Int) = y.snd.snd.2.2 ∧ clRes i o sp p root ix to am ps oth cnt y.1 y.2.1 y.snd.2.1 y.snd.snd.2.1 y.snd.snd.2.2 ∧ y.snd.snd.2.1.length = (16 : Nat) ∧ y.snd.2.1.length = (32 : Nat)) ∧ ((!decide ((2 : Int) = (0 : Int))) = false → (-9223372036854775808 : Int) ≤ to ∧ to ≤ (9223372036854775807 : Int) ∧ r64 p ∧ (0 : Int) ≤ am ∧ ∀ (y : Unit), (payP p (14 : Int) to am).length = (16 : Nat) → (payP p (14 : Int) to am).length = (16 : Nat) → ∀ (b : Nat), (0 : Int) ≤ ix ∧ ix < (32 : Int) ∧ ix.toNat < (32 : Nat) ∧ ∃ (y : Int × Int × List Bool × List Int × Int), i = y.1 ∧ IntKind.u64.wrap (o + am) = y.2.1 ∧ sp.set ix.toNat true = y.snd.2.1 ∧ (32 : Nat) = (32 : Nat) ∧ payP p (14 : Int) to am = y.snd.snd.2.1 ∧ (16 : Nat) = (16 : Nat) ∧ (0 : Int) = y.snd.snd.2.2 ∧ clRes i o sp p root ix to am ps oth cnt y.1 y.2.1 y.snd.2.1 y.snd.snd.2.1 y.snd.snd.2.2 ∧ y.snd.snd.2.1.length = (16 : Nat) ∧ y.snd.2.1.length = (32 : Nat))) ∧ ((!bmay p i o || decide ((14 : Int) ≤ to)) = false → ps.length = ps.length ∧ (∀ (a : List Int), a ∈ ps → rg a) ∧ rg oth ∧ ∀ (y : Unit), ((!ckO root ix to am ps oth cnt) = true → ((!decide ((210 : Int) = (0 : Int))) = true → ∃ (y : Int × Int × List Bool × List Int × Int), (0 : Int) = y.1 ∧ (0 : Int) = y.2.1 ∧ List.replicate (32 : Nat) false = y.snd.2.1 ∧ (32 : Nat) = (32 : Nat) ∧ List.replicate (16 : Nat) (0 : Int) = y.snd.snd.2.1 ∧ (16 : Nat) = (16 : Nat) ∧ (210 : Int) = y.snd.snd.2.2 ∧ clRes i o sp p root ix to am ps oth cnt y.1 y.2.1 y.snd.2.1 y.snd.snd.2.1 y.snd.snd.2.2 ∧ y.snd.snd.2.1.length = (16 : Nat) ∧ y.snd.2.1.length = (32 : Nat)) ∧ ((!decide ((210 : Int) = (0 : Int))) = false → (-9223372036854775808 : Int) ≤ to ∧ to ≤ (9223372036854775807 : Int) ∧ r64 p ∧ (0 : Int) ≤ am ∧ ∀ (y : Unit), (payP p (14 : Int) to am).length = (16 : Nat) → (payP p (14 : Int) to am).length = (16 : Nat) → ∀ (b : Nat), (0 : Int) ≤ ix ∧ ix < (32 : Int) ∧ ix.toNat < (32 : Nat) ∧ ∃ (y : Int × Int × List Bool × List Int × Int), i = y.1 ∧ IntKind.u64.wrap (o + am) = y.2.1 ∧ sp.set ix.toNat true = y.snd.2.1 ∧ (32 : Nat) = (32 : Nat) ∧ payP p (14 : Int) to am = y.snd.snd.2.1 ∧ (16 : Nat) = (16 : Nat) ∧ (0 : Int) = y.snd.snd.2.2 ∧ clRes i o sp p root ix to am ps oth cnt y.1 y.2.1 y.snd.2.1 y.snd.snd.2.1 y.snd.snd.2.2 ∧ y.snd.snd.2.1.length = (16 : Nat) ∧ y.snd.2.1.length = (32 : Nat))) ∧ ((!ckO root ix to am ps oth cnt) = false → (0 : Int) ≤ ix ∧ ix < (32 : Int) ∧ ix.toNat < (32 : Nat) ∧ (sp.getD ix.toNat false = true → ((!decide ((211 : Int) = (0 : Int))) = true → ∃ (y : Int × Int × List Bool × List Int × Int), (0 : Int) = y.1 ∧ (0 : Int) = y.2.1 ∧ List.replicate (32 : Nat) false = y.snd.2.1 ∧ (32 : Nat) = (32 : Nat) ∧ List.replicate (16 : Nat) (0 : Int) = y.snd.snd.2.1 ∧ (16 : Nat) = (16 : Nat) ∧ (211 : Int) = y.snd.snd.2.2 ∧ clRes i o sp p root ix to am ps oth cnt y.1 y.2.1 y.snd.2.1 y.snd.snd.2.1 y.snd.snd.2.2 ∧ y.snd.snd.2.1.length = (16 : Nat) ∧ y.snd.2.1.length = (32 : Nat)) ∧ ((!decide ((211 : Int) = (0 : Int))) = false → (-9223372036854775808 : Int) ≤ to ∧ to ≤ (9223372036854775807 : Int) ∧ r64 p ∧ (0 : Int) ≤ am ∧ ∀ (y : Unit), (payP p (14 : Int) to am).length = (16 : Nat) → (payP p (14 : Int) to am).length = (16 : Nat) → ∀ (b : Nat), (0 : Int) ≤ ix ∧ ix < (32 : Int) ∧ ix.toNat < (32 : Nat) ∧ ∃ (y : Int × Int × List Bool × List Int × Int), i = y.1 ∧ IntKind.u64.wrap (o + am) = y.2.1 ∧ sp.set ix.toNat true = y.snd.2.1 ∧ (32 : Nat) = (32 : Nat) ∧ payP p (14 : Int) to am = y.snd.snd.2.1 ∧ (16 : Nat) = (16 : Nat) ∧ (0 : Int) = y.snd.snd.2.2 ∧ clRes i o sp p root ix to am ps oth cnt y.1 y.2.1 y.snd.2.1 y.snd.snd.2.1 y.snd.snd.2.2 ∧ y.snd.snd.2.1.length = (16 : Nat) ∧ y.snd.2.1.length = (32 : Nat))) ∧ (sp.getD ix.toNat false = false → (decide (p.getD (14 : Nat) (0 : Int) < am) = true → ((!decide ((190 : Int) = (0 : Int))) = true → ∃ (y : Int × Int × List Bool × List Int × Int), (0 : Int) = y.1 ∧ (0 : Int) = y.2.1 ∧ List.replicate (32 : Nat) false = y.snd.2.1 ∧ (32 : Nat) = (32 : Nat) ∧ List.replicate (16 : Nat) (0 : Int) = y.snd.snd.2.1 ∧ (16 : Nat) = (16 : Nat) ∧ (190 : Int) = y.snd.snd.2.2 ∧ clRes i o sp p root ix to am ps oth cnt y.1 y.2.1 y.snd.2.1 y.snd.snd.2.1 y.snd.snd.2.2 ∧ y.snd.snd.2.1.length = (16 : Nat) ∧ y.snd.2.1.length = (32 : Nat)) ∧ ((!decide ((190 : Int) = (0 : Int))) = false → (-9223372036854775808 : Int) ≤ to ∧ to ≤ (9223372036854775807 : Int) ∧ r64 p ∧ (0 : Int) ≤ am ∧ ∀ (y : Unit), (payP p (14 : Int) to am).length = (16 : Nat) → (payP p (14 : Int) to am).length = (16 : Nat) → ∀ (b : Nat), (0 : Int) ≤ ix ∧ ix < (32 : Int) ∧ ix.toNat < (32 : Nat) ∧ ∃ (y : Int × Int × List Bool × List Int × Int), i = y.1 ∧ IntKind.u64.wrap (o + am) = y.2.1 ∧ sp.set ix.toNat true = y.snd.2.1 ∧ (32 : Nat) = (32 : Nat) ∧ payP p (14 : Int) to am = y.snd.snd.2.1 ∧ (16 : Nat) = (16 : Nat) ∧ (0 : Int) = y.snd.snd.2.2 ∧ clRes i o sp p root ix to am ps oth cnt y.1 y.2.1 y.snd.2.1 y.snd.snd.2.1 y.snd.snd.2.2 ∧ y.snd.snd.2.1.length = (16 : Nat) ∧ y.snd.2.1.length = (32 : Nat))) ∧ (decide (p.getD (14 : Nat) (0 : Int) < am) = false → ((!decide ((0 : Int) = (0 : Int))) = true → ∃ (y : Int × Int × List Bool × List Int × Int), (0 : Int) = y.1 ∧ (0 : Int) = y.2.1 ∧ List.replicate (32 : Nat) false = y.snd.2.1 ∧ (32 : Nat) = (32 : Nat) ∧ List.replicate (16 : Nat) (0 : Int) = y.snd.snd.2.1 ∧ (16 : Nat) = (16 : Nat) ∧ (0 : Int) = y.snd.snd.2.2 ∧ clRes i o sp p root ix to am ps oth cnt y.1 y.2.1 y.snd.2.1 y.snd.snd.2.1 y.snd.snd.2.2 ∧ y.snd.snd.2.1.length = (16 : Nat) ∧ y.snd.2.1.length = (32 : Nat)) ∧ ((!decide ((0 : Int) = (0 : Int))) = false → (-9223372036854775808 : Int) ≤ to ∧ to ≤ (9223372036854775807 : Int) ∧ r64 p ∧ (0 : Int) ≤ am ∧ ∀ (y : Unit), (payP p (14 : Int) to am).length = (16 : Nat) → (payP p (14 : Int) to am).length = (16 : Nat) → ∀ (b : Nat), (0 : Int) ≤ ix ∧ ix < (32 : Int) ∧ ix.toNat < (32 : Nat) ∧ ∃ (y : Int × Int × List Bool × List Int × Int), i = y.1 ∧ IntKind.u64.wrap (o + am) = y.2.1 ∧ sp.set ix.toNat true = y.snd.2.1 ∧ (32 : Nat) = (32 : Nat) ∧ payP p (14 : Int) to am = y.snd.snd.2.1 ∧ (16 : Nat) = (16 : Nat) ∧ (0 : Int) = y.snd.snd.2.2 ∧ clRes i o sp p root ix to am ps oth cnt y.1 y.2.1 y.snd.2.1 y.snd.snd.2.1 y.snd.snd.2.2 ∧ y.snd.snd.2.1.length = (16 : Nat) ∧ y.snd.2.1.length = (32 : Nat))))))) (by kernel_rfl) ?_⟩
  simp only [imin, imax, decide_eq_true_eq, decide_eq_false_iff_not, Prod.forall, Prod.exists, exists_eq_left', exists_eq_left, exists_and_left, exists_and_right, exists_eq_right, exists_eq, exists_eq', true_and, and_true, forall_const, exists_const, eq_self, Bool.not_eq_true, Bool.not_eq_eq_eq_not, Bool.not_true, Bool.not_false, Value.slice.injEq, Option.getD_some, imp_self, implies_true, Option.some.injEq, Addr.mk.injEq, true_or, or_true, List.length_cons, List.length_nil, Nat.zero_add, Nat.reduceAdd]
  intro hsp hp hroot hps hoth ht ham ham2 hi ho hr gp go
  have F : ∀ ee, ee = clE i o p sp root ix to am ps oth cnt → ee ≠ 0 → clRes i o sp p root ix to am ps oth cnt 0 0 (List.replicate 32 false) (List.replicate 16 0) ee ∧ (List.replicate 16 (0 : Int)).length = 16 ∧ (List.replicate 32 false).length = 32 := fun ee h1 h2 => ⟨⟨h1, .inr ⟨h2, rfl, rfl, rfl, rfl⟩⟩, by simp, by simp⟩
  refine ⟨hr, fun h => ⟨fun hn => F _ (by rw [clE1 h]) hn, fun h' => absurd h' (by decide)⟩, fun h => ?_⟩
  simp only [Bool.or_eq_false_iff, Bool.not_eq_false', decide_eq_false_iff_not] at h
  have g : bmay p i o = true ∧ to < 14 := ⟨h.1, by omega⟩
  refine ⟨gp, go, fun hc => ⟨fun hn => F _ (by rw [clE2 g hc]) hn, fun h' => absurd h' (by decide)⟩, fun hc => ?_⟩
  have hix := ck_ix hc
  refine ⟨hix.1, hix.2, by omega, fun hs => ⟨fun hn => F _ (by rw [clE3 g hc hs]) hn, fun h' => absurd h' (by decide)⟩, fun hs => ?_⟩
  have hE := clE4 g hc hs
  obtain ⟨b1, b2, b3, b4⟩ := bmay_tot g.1
  have hPE : payE p 14 to am = if am ≤ p.getD 14 0 then 0 else 190 := by rw [payE, if_pos ⟨b1, by omega, by omega, ht, by omega⟩]; rfl
  refine ⟨fun hl => ⟨fun hn => F _ (by rw [hE, hPE, if_neg (by omega)]) hn, fun h' => absurd h' (by decide)⟩, fun hl => ⟨fun h' => absurd trivial h', by omega, by omega, hr, ham, fun hl2 _ => ?_⟩⟩
  rw [hPE, if_pos (by omega)] at hE
  have hs14 := sumN_ge hr (show 14 < 16 by omega)
  unfold totOk at b1
  have hw : IntKind.u64.wrap (o + am) = o + am := by rw [wrap64, Int.emod_eq_of_lt (by omega) (by omega)]
  rw [hw]
  exact ⟨hix.1, hix.2, by omega, ⟨hE.symm, .inl ⟨rfl, rfl, rfl, rfl, rfl⟩⟩, hl2, by simpa using hsp⟩
noncomputable def con_rclaim21 : Con Xp.P FMp := ⟨55, sg_rclaim21, pr_rclaim21, ps_rclaim21, vc_ok (La := la_rclaim21) (Ca := ca_rclaim21) 300 (fn := Go.Proofs.Try.f55) (by kernel_rfl) (c := cd_rclaim21) (by kernel_rfl) (by kernel_rfl) (by kernel_rfl) (by kernel_rfl) (fun ⟨⟨i, ⟨o, ⟨sp, ⟨⟩⟩⟩⟩, ⟨⟨p, ⟨⟩⟩, ⟨⟨root, ⟨⟩⟩, ⟨ix, ⟨⟨to, ⟨am, ⟨⟩⟩⟩, ⟨⟨⟨P, ⟨ps, pc⟩⟩, ⟨oth, ⟨cnt, ⟨⟩⟩⟩⟩, ⟨⟩⟩⟩⟩⟩⟩⟩ => vc_rclaim21 i o sp p root ix to am P ps pc oth cnt)⟩

end Go.Pw
