/-
  Walks by computing. No condition.
-/
import Derived.Test.YtogpbbgcdeiplaaSa1
set_option linter.all false
set_option maxRecDepth 100000
set_option maxHeartbeats 1000000
namespace Go.Pw
open Go Go.Px Go.RowKit

def r64 (l : List Int) : Prop := ∀ j, 0 ≤ l.getD j 0 ∧ l.getD j 0 < 18446744073709551616
def sumN (p : List Int) : Nat → Int
  | 0 => 0
  | n + 1 => sumN p n + p.getD n 0
def totOk (p : List Int) : Prop := sumN p 16 ≤ 4611686018427387904
instance (p : List Int) : Decidable (totOk p) := by unfold totOk; infer_instance
def totV (p : List Int) : Int := if totOk p then sumN p 16 else 0
def totE (p : List Int) : Int := if totOk p then 0 else 4
def payE (p : List Int) (f g a : Int) : Int := if totOk p ∧ 0 ≤ f ∧ f < 16 ∧ 0 ≤ g ∧ g < 16 then (if a ≤ p.getD f.toNat 0 then 0 else 190) else 2
def payQ (p : List Int) (f a : Int) : List Int := p.set f.toNat (p.getD f.toNat 0 - a)
def payR (p : List Int) (f g a : Int) : List Int := (payQ p f a).set g.toNat ((payQ p f a).getD g.toNat 0 + a)
def payP (p : List Int) (f g a : Int) : List Int := if payE p f g a = 0 then payR p f g a else List.replicate 16 0


theorem sumN_mono {p : List Int} (h : r64 p) {m n : Nat} (hl : m ≤ n) : sumN p m ≤ sumN p n := by
  induction n with
  | zero => rw [show m = 0 by omega]; exact Int.le_refl _
  | succ n ih =>
    by_cases e : m = n + 1
    · subst e; exact Int.le_refl _
    · have := ih (by omega)
      have := (h n).1
      show _ ≤ sumN p n + p.getD n 0
      omega
theorem sumN_nn {p : List Int} (h : r64 p) (n : Nat) : 0 ≤ sumN p n := sumN_mono h (Nat.zero_le n)
theorem sumN_ge {p : List Int} (h : r64 p) {j n : Nat} (hj : j < n) : p.getD j 0 ≤ sumN p n := by
  have h1 := sumN_mono h (show j + 1 ≤ n by omega)
  have h2 := sumN_nn h j
  have : sumN p (j + 1) = sumN p j + p.getD j 0 := rfl
  omega
noncomputable def cd_ltot : Code := (Go.Proofs.Try.f82.body).getD .skip
def sg_ltot : List Arg := [.ag [.arr .u64 16]]
def pr_ltot : SgT FMp sg_ltot → List Prop
  | ((p, ()), ()) => (fun (p : List Int) => ([r64 p] : List Prop)) p
def ps_ltot : SgT FMp sg_ltot → PS FMp
  | ((p, ()), ()) => (fun (p : List Int) => (⟨Unit, fun y => [], fun y => .tup [.one (.xv (.int .u64 (totV p))), .one (.xv (.int .i64 (totE p)))], fun y => [], fun y => []⟩ : PS FMp)) p
def la_ltot : SgT FMp sg_ltot → List (Nat × (SS FMp → HA FMp))
  | ((p, ()), ()) => (fun (p : List Int) => ([(3, fun S => ⟨Int × Int, fun y => [], fun n y => [(8, some (one (.int .i64 (y.1)))), (4, some (one (.int .u64 (y.2))))], fun n y => S.m, fun y => [0 ≤ y.1, y.1 ≤ 16, y.2 = sumN p y.1.toNat, y.2 ≤ 4611686018427387904], fun y => (16 - y.1).toNat⟩)] : List (Nat × (SS FMp → HA FMp)))) p
def ca_ltot : SgT FMp sg_ltot → List (Nat × (SS FMp → HA FMp))
  | ((p, ()), ()) => (fun (p : List Int) => ([] : List (Nat × (SS FMp → HA FMp)))) p
theorem vc_ltot (p : List Int) : Vc (vc (FM := FMp) Xp 24 [] (la_ltot ((p, ()), ())) (ca_ltot ((p, ()), ())) [] [] [.tmp 2, .tmp 3] sg_ltot pr_ltot ps_ltot cd_ltot 300 ((p, ()), ())) := by
  refine ⟨Eq.mpr (β := p.length = (16 : Nat) → r64 p → ∀ (b : Nat), (∃ (y : Int × Int), (0 : Int) = y.1 ∧ (0 : Int) = y.2 ∧ p = p ∧ (16 : Nat) = (16 : Nat) ∧ (0 : Int) ≤ y.1 ∧ y.1 ≤ (16 : Int) ∧ y.2 = sumN p y.1.toNat ∧ y.2 ≤ (4611686018427387904 : Int)) ∧ ∀ (y : Int × Int), p.length = (16 : Nat) → (0 : Int) ≤ y.1 → y.1 ≤ (16 : Int) → y.2 = sumN p y.1.toNat → y.2 ≤ (4611686018427387904 : Int) → (decide (y.1 < (16 : Int)) = true → (0 : Int) ≤ y.1 ∧ y.1 < (16 : Int) ∧ y.1.toNat < (16 : Nat) ∧ ((decide ((4611686018427387904 : Int) < p.getD y.1.toNat (0 : Int)) || decide ((4611686018427387904 : Int) < IntKind.u64.wrap (y.2 + p.getD y.1.toNat (0 : Int)))) = true → ∃ (y : Unit), (0 : Int) = totV p ∧ (4 : Int) = totE p) ∧ ((decide ((4611686018427387904 : Int) < p.getD y.1.toNat (0 : Int)) || decide ((4611686018427387904 : Int) < IntKind.u64.wrap (y.2 + p.getD y.1.toNat (0 : Int)))) = false → (-9223372036854775808 : Int) ≤ y.1 + (1 : Int) ∧ y.1 + (1 : Int) ≤ (9223372036854775807 : Int) ∧ ∃ (y_1 : Int × Int), y.1 + (1 : Int) = y_1.1 ∧ IntKind.u64.wrap (y.2 + p.getD y.1.toNat (0 : Int)) = y_1.2 ∧ p = p ∧ (16 : Nat) = (16 : Nat) ∧ (0 : Int) ≤ y_1.1 ∧ y_1.1 ≤ (16 : Int) ∧ y_1.2 = sumN p y_1.1.toNat ∧ y_1.2 ≤ (4611686018427387904 : Int) ∧ ((16 : Int) - y_1.1).toNat < ((16 : Int) - y.1).toNat)) ∧ (decide (y.1 < (16 : Int)) = false → ∃ (y_1 : Unit), y.2 = totV p ∧ (0 : Int) = totE p)) (by kernel_rfl) ?_⟩
  simp only [imin, imax, decide_eq_true_eq, decide_eq_false_iff_not, Prod.forall, Prod.exists, exists_eq_left', exists_eq_left, exists_and_left, exists_and_right, exists_eq_right, exists_eq, exists_eq', true_and, and_true, forall_const, exists_const, eq_self, Bool.not_eq_true, Bool.not_eq_eq_eq_not, Bool.not_true, Bool.not_false, Value.slice.injEq, Option.getD_some, imp_self, implies_true, Option.some.injEq, Addr.mk.injEq, true_or, or_true, List.length_cons, List.length_nil, Nat.zero_add, Nat.reduceAdd]
  intro hp hr
  refine ⟨⟨by omega, by omega, rfl, by omega⟩, fun k t _ h0 h1 ht h2 => ⟨fun h3 => ?_, fun h3 => ?_⟩⟩
  · have hx := hr k.toNat
    have hnn := sumN_nn hr k.toNat
    have e : sumN p (k.toNat + 1) = sumN p k.toNat + p.getD k.toNat 0 := rfl
    have e1 : (k + 1).toNat = k.toNat + 1 := by omega
    have hm := sumN_mono hr (show k.toNat + 1 ≤ 16 by omega)
    refine ⟨h0, h3, by omega, fun h => ?_, fun h => ?_⟩
    · have hn : ¬ totOk p := by
        intro o
        unfold totOk at o
        simp only [Bool.or_eq_true, decide_eq_true_eq] at h
        rw [wrap64] at h
        rcases h with h | h <;> omega
      exact ⟨by rw [totV, if_neg hn], by rw [totE, if_neg hn]⟩
    · simp only [Bool.or_eq_false_iff, decide_eq_false_iff_not] at h
      rw [wrap64] at h ⊢
      rw [Int.emod_eq_of_lt (by omega) (by omega)] at h ⊢
      exact ⟨by omega, by omega, by omega, by omega, by rw [e1, e, ht], by omega, by omega⟩
  · have hk : k.toNat = 16 := by omega
    have o : totOk p := by rw [totOk, ← hk, ← ht]; exact h2
    exact ⟨by rw [totV, if_pos o, ht, hk], by rw [totE, if_pos o]⟩
noncomputable def con_ltot : Con Xp.P FMp := ⟨82, sg_ltot, pr_ltot, ps_ltot, vc_ok (La := la_ltot) (Ca := ca_ltot) 300 (fn := Go.Proofs.Try.f82) (by kernel_rfl) (c := cd_ltot) (by kernel_rfl) (by kernel_rfl) (by kernel_rfl) (by kernel_rfl) (fun ⟨⟨p, ⟨⟩⟩, ⟨⟩⟩ => vc_ltot p)⟩
noncomputable def cd_lmay : Code := (Go.Proofs.Try.f59.body).getD .skip
def sg_lmay : List Arg := [.ag [.arr .u64 16]]
def pr_lmay : SgT FMp sg_lmay → List Prop
  | ((p, ()), ()) => (fun (p : List Int) => ([r64 p] : List Prop)) p
def ps_lmay : SgT FMp sg_lmay → PS FMp
  | ((p, ()), ()) => (fun (p : List Int) => (⟨Unit, fun y => [], fun y => one (.bool (decide (totE p = 0))), fun y => [], fun y => []⟩ : PS FMp)) p
def la_lmay : SgT FMp sg_lmay → List (Nat × (SS FMp → HA FMp))
  | ((p, ()), ()) => (fun (p : List Int) => ([] : List (Nat × (SS FMp → HA FMp)))) p
def ca_lmay : SgT FMp sg_lmay → List (Nat × (SS FMp → HA FMp))
  | ((p, ()), ()) => (fun (p : List Int) => ([] : List (Nat × (SS FMp → HA FMp)))) p
theorem vc_lmay (p : List Int) : Vc (vc (FM := FMp) Xp 12 [con_ltot] (la_lmay ((p, ()), ())) (ca_lmay ((p, ()), ())) [] [] [.tmp 2] sg_lmay pr_lmay ps_lmay cd_lmay 300 ((p, ()), ())) := by
  refine ⟨Eq.mpr (β := p.length = (16 : Nat) → r64 p → ∀ (b : Nat), r64 p ∧ ∀ (y : Unit), ∃ (y : Unit), decide (totE p = (0 : Int)) = decide (totE p = (0 : Int))) (by kernel_rfl) ?_⟩
  simp only [imin, imax, decide_eq_true_eq, decide_eq_false_iff_not, Prod.forall, Prod.exists, exists_eq_left', exists_eq_left, exists_and_left, exists_and_right, exists_eq_right, exists_eq, exists_eq', true_and, and_true, forall_const, exists_const, eq_self, Bool.not_eq_true, Bool.not_eq_eq_eq_not, Bool.not_true, Bool.not_false, Value.slice.injEq, Option.getD_some, imp_self, implies_true, Option.some.injEq, Addr.mk.injEq, true_or, or_true, List.length_cons, List.length_nil, Nat.zero_add, Nat.reduceAdd]
   
noncomputable def con_lmay : Con Xp.P FMp := ⟨59, sg_lmay, pr_lmay, ps_lmay, vc_ok (La := la_lmay) (Ca := ca_lmay) 300 (fn := Go.Proofs.Try.f59) (by kernel_rfl) (c := cd_lmay) (by kernel_rfl) (by kernel_rfl) (by kernel_rfl) (by kernel_rfl) (fun ⟨⟨p, ⟨⟩⟩, ⟨⟩⟩ => vc_lmay p)⟩
noncomputable def cd_lpay : Code := (Go.Proofs.Try.f61.body).getD .skip
def sg_lpay : List Arg := [.ag [.arr .u64 16], .ag [.int .i64, .int .i64, .int .u64]]
def pr_lpay : SgT FMp sg_lpay → List Prop
  | ((p, ()), ((f, (g, (a, ()))), ())) => (fun (p : List Int) (f g a : Int) => ([r64 p, 0 ≤ a] : List Prop)) p f g a
def ps_lpay : SgT FMp sg_lpay → PS FMp
  | ((p, ()), ((f, (g, (a, ()))), ())) => (fun (p : List Int) (f g a : Int) => (⟨Unit, fun y => [], fun y => .tup [.ag (zz .u64 (payP p f g a) 16), .one (.xv (.int .i64 (payE p f g a)))], fun y => [], fun y => [(payP p f g a).length = 16]⟩ : PS FMp)) p f g a
def la_lpay : SgT FMp sg_lpay → List (Nat × (SS FMp → HA FMp))
  | ((p, ()), ((f, (g, (a, ()))), ())) => (fun (p : List Int) (f g a : Int) => ([] : List (Nat × (SS FMp → HA FMp)))) p f g a
def ca_lpay : SgT FMp sg_lpay → List (Nat × (SS FMp → HA FMp))
  | ((p, ()), ((f, (g, (a, ()))), ())) => (fun (p : List Int) (f g a : Int) => ([] : List (Nat × (SS FMp → HA FMp)))) p f g a
theorem vc_lpay (p : List Int) (f g a : Int) : Vc (vc (FM := FMp) Xp 52 [con_lmay] (la_lpay ((p, ()), ((f, (g, (a, ()))), ()))) (ca_lpay ((p, ()), ((f, (g, (a, ()))), ()))) [] [86] [.cell 4 27, .tmp 5] sg_lpay pr_lpay ps_lpay cd_lpay 300 ((p, ()), ((f, (g, (a, ()))), ()))) := by
  refine ⟨Eq.mpr (β := p.length = (16 : Nat) → r64 p → (0 : Int) ≤ a → ∀ (b b b : Nat), r64 p ∧ ∀ (y : Unit), ((!decide (totE p = (0 : Int))) = true → ∃ (y : Unit), List.replicate (16 : Nat) (0 : Int) = payP p f g a ∧ (16 : Nat) = (16 : Nat) ∧ (2 : Int) = payE p f g a ∧ (payP p f g a).length = (16 : Nat)) ∧ ((!decide (totE p = (0 : Int))) = false → ((!(decide ((0 : Int) ≤ f) && decide (f < (16 : Int)))) = true → ∃ (y : Unit), List.replicate (16 : Nat) (0 : Int) = payP p f g a ∧ (16 : Nat) = (16 : Nat) ∧ (2 : Int) = payE p f g a ∧ (payP p f g a).length = (16 : Nat)) ∧ ((!(decide ((0 : Int) ≤ f) && decide (f < (16 : Int)))) = false → ((!(decide ((0 : Int) ≤ g) && decide (g < (16 : Int)))) = true → ∃ (y : Unit), List.replicate (16 : Nat) (0 : Int) = payP p f g a ∧ (16 : Nat) = (16 : Nat) ∧ (2 : Int) = payE p f g a ∧ (payP p f g a).length = (16 : Nat)) ∧ ((!(decide ((0 : Int) ≤ g) && decide (g < (16 : Int)))) = false → (0 : Int) ≤ f ∧ f < (16 : Int) ∧ f.toNat < (16 : Nat) ∧ (decide (p.getD f.toNat (0 : Int) < a) = true → ∃ (y : Unit), List.replicate (16 : Nat) (0 : Int) = payP p f g a ∧ (16 : Nat) = (16 : Nat) ∧ (190 : Int) = payE p f g a ∧ (payP p f g a).length = (16 : Nat)) ∧ (decide (p.getD f.toNat (0 : Int) < a) = false → (0 : Int) ≤ f ∧ f < (16 : Int) ∧ f.toNat < (16 : Nat) ∧ (0 : Int) ≤ f ∧ f < (16 : Int) ∧ f.toNat < (16 : Nat) ∧ ∀ (q : List Int), q = p.set f.toNat (IntKind.u64.wrap (p.getD f.toNat (0 : Int) - a)) → (0 : Int) ≤ g ∧ g < (16 : Int) ∧ g.toNat < (16 : Nat) ∧ (0 : Int) ≤ g ∧ g < (16 : Int) ∧ g.toNat < (16 : Nat) ∧ ∀ (q_1 : List Int), q_1 = q.set g.toNat (IntKind.u64.wrap (q.getD g.toNat (0 : Int) + a)) → ∃ (y : Unit), q_1 = payP p f g a ∧ (16 : Nat) = (16 : Nat) ∧ (0 : Int) = payE p f g a ∧ (payP p f g a).length = (16 : Nat)))))) (by kernel_rfl) ?_⟩
  simp only [imin, imax, decide_eq_true_eq, decide_eq_false_iff_not, Prod.forall, Prod.exists, exists_eq_left', exists_eq_left, exists_and_left, exists_and_right, exists_eq_right, exists_eq, exists_eq', true_and, and_true, forall_const, exists_const, eq_self, Bool.not_eq_true, Bool.not_eq_eq_eq_not, Bool.not_true, Bool.not_false, Value.slice.injEq, Option.getD_some, imp_self, implies_true, Option.some.injEq, Addr.mk.injEq, true_or, or_true, List.length_cons, List.length_nil, Nat.zero_add, Nat.reduceAdd]
  intro hp hr ha
  have tE : totE p = 0 ↔ totOk p := by unfold totE; split <;> simp_all
  have bad : ¬ (payE p f g a = 0) → List.replicate 16 0 = payP p f g a ∧ (payP p f g a).length = 16 := fun h => by rw [payP, if_neg h]; exact ⟨rfl, by simp⟩
  have out2 : ¬ (totOk p ∧ 0 ≤ f ∧ f < 16 ∧ 0 ≤ g ∧ g < 16) → List.replicate 16 0 = payP p f g a ∧ 2 = payE p f g a ∧ (payP p f g a).length = 16 := fun h => by
    have e : payE p f g a = 2 := by rw [payE, if_neg h]
    obtain ⟨b1, b2⟩ := bad (by omega)
    exact ⟨b1, e.symm, b2⟩
  refine ⟨hr, fun h => out2 (fun o => h (tE.2 o.1)), fun h => ⟨fun h1 => out2 (fun o => by simp [o.2.1, o.2.2.1] at h1), fun h1 => ⟨fun h2 => out2 (fun o => by simp [o.2.2.2.1, o.2.2.2.2] at h2), fun h2 => ?_⟩⟩⟩
  simp only [Bool.and_eq_true, decide_eq_true_eq] at h1 h2
  have o : totOk p ∧ 0 ≤ f ∧ f < 16 ∧ 0 ≤ g ∧ g < 16 := ⟨tE.1 h, h1.1, h1.2, h2.1, h2.2⟩
  refine ⟨h1.1, h1.2, by omega, fun h3 => ?_, fun h3 => ⟨h1.1, h1.2, by omega, h1.1, h1.2, by omega, fun q hq => ⟨h2.1, h2.2, by omega, h2.1, h2.2, by omega, fun r hr2 => ?_⟩⟩⟩
  · have e : payE p f g a = 190 := by rw [payE, if_pos o, if_neg (by omega)]
    obtain ⟨b1, b2⟩ := bad (by omega)
    exact ⟨b1, e.symm, b2⟩
  · have e : payE p f g a = 0 := by rw [payE, if_pos o, if_pos (by omega)]
    have hf := hr f.toNat
    have hg := hr g.toNat
    have sf := sumN_ge hr (show f.toNat < 16 by omega)
    have sg := sumN_ge hr (show g.toNat < 16 by omega)
    have ho := o.1
    unfold totOk at ho
    have hq' : q = payQ p f a := by rw [hq, wrap64, Int.emod_eq_of_lt (by omega) (by omega)]; rfl
    have hgq : 0 ≤ (payQ p f a).getD g.toNat 0 ∧ (payQ p f a).getD g.toNat 0 ≤ 4611686018427387904 := by
      unfold payQ
      rw [List.getD_eq_getElem?_getD, List.getElem?_set]
      by_cases hfg : f.toNat = g.toNat
      · rw [if_pos hfg, if_pos (by omega)]
        show 0 ≤ p.getD f.toNat 0 - a ∧ p.getD f.toNat 0 - a ≤ _
        omega
      · rw [if_neg hfg, ← List.getD_eq_getElem?_getD]
        omega
    subst hq'
    rw [wrap64, Int.emod_eq_of_lt (by omega) (by omega)] at hr2
    exact ⟨by rw [payP, if_pos e]; exact hr2, e.symm, by rw [payP, if_pos e]; simp [payR, payQ, hp]⟩
noncomputable def con_lpay : Con Xp.P FMp := ⟨61, sg_lpay, pr_lpay, ps_lpay, vc_ok (La := la_lpay) (Ca := ca_lpay) 300 (fn := Go.Proofs.Try.f61) (by kernel_rfl) (c := cd_lpay) (by kernel_rfl) (by kernel_rfl) (by kernel_rfl) (by kernel_rfl) (fun ⟨⟨p, ⟨⟩⟩, ⟨⟨f, ⟨g, ⟨a, ⟨⟩⟩⟩⟩, ⟨⟩⟩⟩ => vc_lpay p f g a)⟩

end Go.Pw
