/-
  Slices of slices and of arrays; every operation that yields a value. No condition.
-/
import Derived.Test.YtogpbbgcdeiplaaZ6
set_option linter.all false
namespace Go.Px
open Go.RowKit

section
variable {FM : Nat → Fm}
variable {X : Cx} {S : SS FM} {o : Oper} {a : Act} {w : World} {N : FN} {v : TV FM} {φs : List Prop} {x : List (Ad × Vw)}

theorem num_spec (hS : S.WF) (ha : Tm N S.Td a) {y : Option Operand} {r : Option Int} (h : num? X S y = some r) :
    (∀ v, y.map a.eval = some v → ∃ k n, v = .int k n ∧ r = some n) ∧ (y.map a.eval = none → r = none) := by
  cases y with
  | none => simp only [num?, Option.some.injEq] at h; subst h; simp
  | some y =>
    simp only [num?] at h
    split at h
    · rename_i k n hy
      simp only [Option.some.injEq] at h; subst h
      obtain ⟨hyv, -, -⟩ := evS_eval hS ha hy
      refine ⟨fun v hv => ?_, by simp⟩
      simp only [Option.map_some, Option.some.injEq] at hv
      subst hv
      exact ⟨k, n, hyv, rfl⟩
    · cases h

theorem sliceAt_run (hS : S.WF) (ha : Tm N S.Td a) {t e len cap s : Nat} {xv : Value} {A : Option Addr} {lo hi mx : Option Operand} {l h m : Option Int} (hl : num? X S lo = some l) (hh : num? X S hi = some h) (hm : num? X S mx = some m)
    (hmh : m.isSome = true → h.isSome = true)
    (hx : (X.P.underlying t = some (.array len e) ∧ cap = len ∧ ∃ A', A = some A' ∧ xv = .pointer (some A')) ∨ (X.P.underlying t = some (.slice e) ∧ xv = .slice A len cap)) (hs : sizeB X.P e = some s)
    (b0 : 0 ≤ l.getD 0) (b1 : l.getD 0 ≤ h.getD len) (b2 : h.getD len ≤ m.getD cap) (b3 : m.getD cap ≤ cap) (w : World) :
    (Instr.sliceAt t xv (lo.map a.eval) (hi.map a.eval) (mx.map a.eval)).run X.P w = .ok (.slice (slA A (l.getD 0).toNat (m.getD cap).toNat s) ((h.getD len).toNat - (l.getD 0).toNat) ((m.getD cap).toNat - (l.getD 0).toNat)) w := by
  have q1 := num_spec hS ha hl
  have q2 := num_spec hS ha hh
  have q3 := num_spec hS ha hm
  rcases hx with ⟨hu, rfl, A', rfl, rfl⟩ | ⟨hu, rfl⟩
  · have hb := run_sliceBounds (P := X.P) (isS := false) (len := cap) (cap := cap) q1.1 q1.2 q2.1 q2.2 q3.1 q3.2 hmh b0 b1 b2 b3 w
    simp only [Instr.sliceAt, Instr.sureAddr, Sem.run_bind, Sem.run_pure, Result.andThen_ok, run_underlying' hu, hb, pureRun_spec hs]
    unfold slA
    split <;> rfl
  · have hb := run_sliceBounds (P := X.P) (isS := true) (len := len) (cap := cap) q1.1 q1.2 q2.1 q2.2 q3.1 q3.2 hmh b0 b1 b2 b3 w
    simp only [Instr.sliceAt, Instr.slice, Sem.run_bind, Sem.run_pure, Result.andThen_ok, run_underlying' hu, hb, pureRun_spec hs]
    rfl

theorem plc_bk {E : List Ad} {id off : Nat} (h : isbk E id = true) : plc E id off = ⟨bno E id, off, none⟩ := by
  rw [plc_adr, bas_bk h, adr_some, Nat.zero_add]

theorem bas_new {E : List Ad} {A : Option Addr} {o : Nat} : bas (E ++ [.ad A]) E.length o = A := by
  unfold bas; simp

theorem qSl_ok (hS : S.WF) (ha : Tm N S.Td a) {t : TypeId} {y : Operand} {lo hi mx : Option Operand} (ho : o.op = .slice t y lo hi mx) (h : qSl X S t y lo hi mx = some (φs, v, x)) (hφ : All φs) : QOk X S o a w v x := by
  unfold qSl at h
  split at h
  · rename_i l hh m hl' hh' hm'
    simp only [cond_eq_ite] at h
    split at h
    · cases h
    rename_i hmh
    have hmh : m.isSome = true → hh.isSome = true := by
      intro e
      cases hh with
      | none => simp [e] at hmh
      | some _ => rfl
    split at h
    · rename_i n e id off hu hy
      obtain ⟨hyv, hyw, hyl⟩ := evS_eval hS ha hy
      have hyv' : a.eval y = .pointer (some (plc S.E id off)) := hyv
      obtain ⟨s, hs, h⟩ := Option.bind_eq_some_iff.1 h
      split at h
      · rename_i hb
        have run_ := fun b0 b1 b2 b3 => sliceAt_run hS ha (w := w) (xv := a.eval y) (A := some (plc S.E id off)) hl' hh' hm' hmh (.inl ⟨hu, rfl, _, rfl, hyv'⟩) hs b0 b1 b2 b3
        split at h
        · split at h
          · rename_i hc
            obtain ⟨b0, b1, b2, b3, b4⟩ := of_decide_eq_true hc
            simp only [Option.some.injEq, Prod.mk.injEq] at h
            obtain ⟨rfl, rfl, rfl⟩ := h
            refine QOk.mk0 hS ?_ trivial hyl
            have hA : slA (some (plc S.E id off)) (l.getD 0).toNat (m.getD n).toNat s = bas S.E id (off + (l.getD 0).toNat * s) := by
              rw [bas_bk hb, plc_bk hb]
              rcases b4 with b4 | b4
              · rw [b4]; simp [slA_zero]
              · exact slA_some (by omega) rfl
            unfold execOp
            simp only [ho, Sem.run_bind, run_ b0 b1 b2 b3, Result.andThen_ok, Sem.run_pure, hA, TV.den, SV.den, S0.den]
            congr 4 <;> omega
          · cases h
        · split at h
          · rename_i hc
            simp only [Bool.and_eq_true, decide_eq_true_eq] at hc
            have h0 := hc.2
            simp only [Option.some.injEq, Prod.mk.injEq] at h
            obtain ⟨rfl, rfl, rfl⟩ := h
            obtain ⟨b1, b2, b3, -⟩ := hφ
            refine QOk.mk0 hS ?_ trivial hyl
            have hr := run_ (by omega) (by omega) b2 b3
            rw [h0] at hr
            have hA : slA (some (plc S.E id off)) (0 : Int).toNat (m.getD n).toNat s = bas S.E id off := by
              rw [bas_bk hb, plc_bk hb]; simp [slA_zero]
            rw [hA] at hr
            unfold execOp
            simp only [ho, Sem.run_bind, hr, Result.andThen_ok, Sem.run_pure, TV.den, SV.den, S0.den]
            simp
          · cases h
      · cases h
    · rename_i e id o1 len cap tr0 hu hy
      obtain ⟨hyv, hyw, hyl⟩ := evS_eval hS ha hy
      have hyv' : a.eval y = .slice (bas S.E id o1) len cap := hyv
      obtain ⟨s, hs, h⟩ := Option.bind_eq_some_iff.1 h
      have run_ := fun b0 b1 b2 b3 => sliceAt_run hS ha (w := w) (xv := a.eval y) (A := bas S.E id o1) hl' hh' hm' hmh (.inr ⟨hu, hyv'⟩) hs b0 b1 b2 b3
      split at h
      · rename_i hc
        simp only [Bool.and_eq_true, decide_eq_true_eq] at hc
        have h0 := hc.2
        have fin : ∀ {n' c' : Nat} {tr : Bool}, 0 ≤ hh.getD len → hh.getD len ≤ m.getD cap → m.getD cap ≤ cap → n' = (hh.getD len).toNat → c' = (m.getD cap).toNat → QOk X S o a w (.v (.one (.sc id o1 n' c' tr))) [] := by
          intro n' c' tr b1 b2 b3 e1 e2
          subst e1 e2
          refine QOk.mk0 hS ?_ trivial hyl
          have hr := run_ (by omega) (by omega) b2 b3
          rw [h0] at hr
          simp only [Int.toNat_zero, slA_zero, Nat.sub_zero] at hr
          unfold execOp
          simp only [ho, Sem.run_bind, hr, Result.andThen_ok, Sem.run_pure, TV.den, SV.den, S0.den]
        split at h
        · simp only [Option.some.injEq, Prod.mk.injEq] at h
          obtain ⟨rfl, rfl, rfl⟩ := h
          have := hφ.1
          exact fin (by simp) (by simp only [Option.getD_none]; omega) (by simp) (by simp) (by simp)
        · simp only [Option.some.injEq, Prod.mk.injEq] at h
          obtain ⟨rfl, rfl, rfl⟩ := h
          exact fin hφ.1 hφ.2.1 (by simp) rfl (by simp)
        · simp only [Option.some.injEq, Prod.mk.injEq] at h
          obtain ⟨rfl, rfl, rfl⟩ := h
          exact fin hφ.1 hφ.2.1 hφ.2.2.1 rfl rfl
        · cases h
      · split at h
        · rename_i hc
          simp only [Bool.and_eq_true] at hc
          have ho1 : o1 = 0 := beq_n hc.1
          have hid := hc.2
          rw [ho1] at run_
          have fin : ∀ {l0 n' c' mm : Nat}, 0 ≤ l.getD 0 → l.getD 0 ≤ hh.getD len → hh.getD len ≤ m.getD cap → m.getD cap ≤ cap → l0 = (l.getD 0).toNat → mm = (m.getD cap).toNat → n' = (hh.getD len).toNat - (l.getD 0).toNat → c' = (m.getD cap).toNat - (l.getD 0).toNat →
              QOk X S o a w (.v (.one (.sc S.E.length 0 n' c' false))) [(.ad (slA (bas S.E id 0) l0 mm s), ⟨S.E.length, id, l0, mm, n', s⟩)] := by
            intro l0 n' c' mm b0 b1 b2 b3 e0 e3 e1 e2
            subst e1 e2 e3 e0
            refine ⟨?_, trivial, ?_, ?_⟩
            · unfold execOp
              simp only [ho, Sem.run_bind, run_ b0 b1 b2 b3, Result.andThen_ok, Sem.run_pure, TV.den, SV.den, S0.den, List.map_cons, List.map_nil, bas_new]
            · exact Nat.blt_eq.mpr (by simp)
            · refine ⟨⟨?_, by simp only; omega, Nat.blt_eq.mpr (by simp), blt_mono hid (by simp)⟩, vwf_ext hS.v⟩
              simp only [List.map_cons, List.map_nil, bas_new, bas_ext hid]
          split at h
          · simp only [Option.some.injEq, Prod.mk.injEq] at h
            obtain ⟨rfl, rfl, rfl⟩ := h
            obtain ⟨b0, b1, b2, -⟩ := hφ
            exact fin b0 (by simp only [Option.getD_none]; omega) (by simp only [Option.getD_none]; omega) (by simp) rfl (by simp) (by simp) (by simp)
          · simp only [Option.some.injEq, Prod.mk.injEq] at h
            obtain ⟨rfl, rfl, rfl⟩ := h
            obtain ⟨b0, b1, b2, -⟩ := hφ
            exact fin b0 b1 b2 (by simp) rfl (by simp) rfl (by simp)
          · simp only [Option.some.injEq, Prod.mk.injEq] at h
            obtain ⟨rfl, rfl, rfl⟩ := h
            obtain ⟨b0, b1, b2, b3, -⟩ := hφ
            exact fin b0 b1 b2 b3 rfl rfl rfl rfl
          · cases h
        · cases h
    · rename_i e hu hy
      obtain ⟨hyv, hyw, hyl⟩ := evS_eval hS ha hy
      have hyv' : a.eval y = .slice none 0 0 := hyv
      obtain ⟨s, hs, h⟩ := Option.map_eq_some_iff.1 h
      simp only [Prod.mk.injEq] at h
      obtain ⟨rfl, rfl, rfl⟩ := h
      obtain ⟨b0, b1, b2, -⟩ := hφ
      have hr := sliceAt_run hS ha (w := w) (xv := a.eval y) (A := none) (len := 0) (cap := 0) hl' hh' hm' hmh (.inr ⟨hu, hyv'⟩) hs (by omega) (by rw [Int.natCast_zero, b0, b1]; omega) (by rw [Int.natCast_zero, b1, b2]; omega) (by rw [Int.natCast_zero, b2]; omega)
      refine QOk.mk0 hS ?_ trivial hyl
      rw [Int.natCast_zero, b0, b1, b2, Int.toNat_zero, slA_zero] at hr
      unfold execOp
      simp only [ho, Sem.run_bind, hr, Result.andThen_ok, Sem.run_pure, one, TV.den, SV.den, S0.den]
    · cases h
  · cases h

theorem snil_run {P : Program} {t e : TypeId} (hu : P.underlying t = some (.slice e)) (A : Option Addr) (n c : Nat) (w : World) : (Op.equal t (.slice A n c) (.slice none 0 0)).run P w = .ok A.isNone w := run_eq_nil hu A n c w

theorem mnil_run {P : Program} {t k e : TypeId} (hu : P.underlying t = some (.map k e)) (b : Nat) (w : World) : (Op.equal t (.map (some b)) (.map none)).run P w = .ok false w := by
  have key : ∀ d, (Op.equalIn (d + 1) t (.map (some b)) (.map none)).run P w = .ok false w := by
    intro d
    simp [Op.equalIn, run_underlying hu]
  exact key 9999
theorem pnil_run {P : Program} {t e : TypeId} (hu : P.underlying t = some (.pointer e)) (A : Option Addr) (w : World) : (Op.equal t (.pointer A) (.pointer none)).run P w = .ok A.isNone w := by
  have key : ∀ d, (Op.equalIn (d + 1) t (.pointer A) (.pointer none)).run P w = .ok A.isNone w := by
    intro d
    cases A <;> simp [Op.equalIn, run_underlying hu]
  exact key 9999

theorem qStr_ok (hS : S.WF) (ha : Tm N S.Td a) {op : BinOp} {t t' : Nat} {y z : Operand} (ho : o.op = .binOp op t y z t') (h : qStr X S op t y z = some (φs, v, x)) (hφ : All φs) : QOk X S o a w v x := by
  have seq : ∀ {a b : List Int}, byt a → byt b → ((strOfNums a).toList == (strOfNums b).toList) = decide (a = b) := by
    intro a b ha hb
    rw [toList_beq]
    by_cases e : a = b
    · subst e; simp
    · simp only [e, decide_false, decide_eq_false_iff_not]
      exact fun h => e (strOfNums_inj ha hb h)
  unfold qStr at h
  split at h
  · rename_i hy hz
    obtain ⟨hyv, -, -⟩ := evS_eval hS ha hy
    obtain ⟨hzv, -, -⟩ := evS_eval hS ha hz
    simp only [Option.some.injEq, Prod.mk.injEq] at h
    obtain ⟨rfl, rfl, rfl⟩ := h
    refine QOk.mk0 hS ?_ trivial rfl
    unfold execOp
    simp only [ho, hyv, hzv, TV.den, SV.den, S0.den, one]
    simp [eqGuard, Sem.run_bind, binOp, Op.stringOp, seq hφ.1 hφ.2.1]
  · rename_i hy hz
    obtain ⟨hyv, -, -⟩ := evS_eval hS ha hy
    obtain ⟨hzv, -, -⟩ := evS_eval hS ha hz
    simp only [Option.some.injEq, Prod.mk.injEq] at h
    obtain ⟨rfl, rfl, rfl⟩ := h
    refine QOk.mk0 hS ?_ trivial rfl
    have hne : ∀ u v : List UInt8, (u != v) = !(u == v) := fun u v => rfl
    unfold execOp
    simp only [ho, hyv, hzv, TV.den, SV.den, S0.den, one]
    simp [eqGuard, Sem.run_bind, binOp, Op.stringOp, hne, seq hφ.1 hφ.2.1]
  · rename_i p q hy hz
    obtain ⟨hyv, -, -⟩ := evS_eval hS ha hy
    obtain ⟨hzv, -, -⟩ := evS_eval hS ha hz
    simp only [Option.some.injEq, Prod.mk.injEq] at h
    obtain ⟨rfl, rfl, rfl⟩ := h
    refine QOk.mk0 hS ?_ trivial rfl
    have := run_string_add_sum (P := X.P) w (strOfNums p) (strOfNums q) (by rw [strOfNums_size, strOfNums_size]; exact hφ.1)
    unfold execOp
    simp only [ho, hyv, hzv, TV.den, SV.den, S0.den, binOp_string_add]
    simp [eqGuard, Sem.run_bind, this, strOfNums_append]
  · rename_i hy hz
    split at h
    · rename_i e hu
      obtain ⟨hyv, -, -⟩ := evS_eval hS ha hy
      obtain ⟨hzv, -, -⟩ := evS_eval hS ha hz
      simp only [Option.some.injEq, Prod.mk.injEq] at h
      obtain ⟨rfl, rfl, rfl⟩ := h
      have hrun : ∀ (A : Option Addr) (n c : Nat) (e : a.eval y = .slice A n c), (execOp a.eval o).run X.P w = .ok (.value (.bool A.isNone)) w := by
        intro A n c e
        unfold execOp
        simp only [ho, e, hzv, TV.den, SV.den, S0.den]
        simp [eqGuard, binOp, Sem.run_bind, snil_run hu]
      simp only [cond_eq_ite]
      split
      · rename_i hb
        refine QOk.mk0 hS ?_ trivial rfl
        rw [hrun _ _ _ hyv, bas_bk hb]; rfl
      · refine QOk.mk0 hS ?_ trivial rfl
        rw [hrun _ _ _ hyv]; rfl
    · cases h
  · rename_i hy hz
    split at h
    · rename_i e hu
      obtain ⟨hyv, -, -⟩ := evS_eval hS ha hy
      obtain ⟨hzv, -, -⟩ := evS_eval hS ha hz
      simp only [Option.some.injEq, Prod.mk.injEq] at h
      obtain ⟨rfl, rfl, rfl⟩ := h
      have hrun : ∀ (A : Option Addr) (n c : Nat) (e : a.eval y = .slice A n c), (execOp a.eval o).run X.P w = .ok (.value (.bool (!A.isNone))) w := by
        intro A n c e
        unfold execOp
        simp only [ho, e, hzv, TV.den, SV.den, S0.den]
        simp [eqGuard, binOp, Sem.run_bind, snil_run hu]
      simp only [cond_eq_ite]
      split
      · rename_i hb
        refine QOk.mk0 hS ?_ trivial rfl
        rw [hrun _ _ _ hyv, bas_bk hb]; rfl
      · refine QOk.mk0 hS ?_ trivial rfl
        rw [hrun _ _ _ hyv]; rfl
    · cases h
  · rename_i hy hz
    split at h
    · rename_i hu
      obtain ⟨hyv, -, -⟩ := evS_eval hS ha hy
      obtain ⟨hzv, -, -⟩ := evS_eval hS ha hz
      simp only [Option.some.injEq, Prod.mk.injEq] at h
      obtain ⟨rfl, rfl, rfl⟩ := h
      refine QOk.mk0 hS ?_ trivial rfl
      unfold execOp
      simp only [ho, hyv, hzv, TV.den, SV.den, S0.den]
      simp [eqGuard, binOp, Sem.run_bind, mnil_run hu]
    · cases h
  · rename_i hy hz
    split at h
    · rename_i hu
      obtain ⟨hyv, -, -⟩ := evS_eval hS ha hy
      obtain ⟨hzv, -, -⟩ := evS_eval hS ha hz
      simp only [Option.some.injEq, Prod.mk.injEq] at h
      obtain ⟨rfl, rfl, rfl⟩ := h
      refine QOk.mk0 hS ?_ trivial rfl
      unfold execOp
      simp only [ho, hyv, hzv, TV.den, SV.den, S0.den]
      simp [eqGuard, binOp, Sem.run_bind, pnil_run hu]
    · cases h
  · rename_i hy hz
    split at h
    · rename_i hu
      obtain ⟨hyv, -, -⟩ := evS_eval hS ha hy
      obtain ⟨hzv, -, -⟩ := evS_eval hS ha hz
      simp only [Option.some.injEq, Prod.mk.injEq] at h
      obtain ⟨rfl, rfl, rfl⟩ := h
      refine QOk.mk0 hS ?_ trivial rfl
      unfold execOp
      simp only [ho, hyv, hzv, TV.den, SV.den, S0.den]
      simp [eqGuard, binOp, Sem.run_bind, pnil_run hu]
    · cases h
  · rename_i hy hz
    split at h
    · rename_i hu
      obtain ⟨hyv, -, -⟩ := evS_eval hS ha hy
      obtain ⟨hzv, -, -⟩ := evS_eval hS ha hz
      simp only [Option.some.injEq, Prod.mk.injEq] at h
      obtain ⟨rfl, rfl, rfl⟩ := h
      refine QOk.mk0 hS ?_ trivial rfl
      unfold execOp
      simp only [ho, hyv, hzv, TV.den, SV.den, S0.den]
      simp [eqGuard, binOp, Sem.run_bind, mnil_run hu]
    · cases h
  · rename_i hy hz
    split at h
    · rename_i hu
      obtain ⟨hyv, -, -⟩ := evS_eval hS ha hy
      obtain ⟨hzv, -, -⟩ := evS_eval hS ha hz
      simp only [Option.some.injEq, Prod.mk.injEq] at h
      obtain ⟨rfl, rfl, rfl⟩ := h
      refine QOk.mk0 hS ?_ trivial rfl
      unfold execOp
      simp only [ho, hyv, hzv, TV.den, SV.den, S0.den]
      simp [eqGuard, binOp, Sem.run_bind, pnil_run hu]
    · cases h
  · rename_i hy hz
    split at h
    · rename_i hu
      obtain ⟨hyv, -, -⟩ := evS_eval hS ha hy
      obtain ⟨hzv, -, -⟩ := evS_eval hS ha hz
      simp only [Option.some.injEq, Prod.mk.injEq] at h
      obtain ⟨rfl, rfl, rfl⟩ := h
      refine QOk.mk0 hS ?_ trivial rfl
      unfold execOp
      simp only [ho, hyv, hzv, TV.den, SV.den, S0.den]
      simp [eqGuard, binOp, Sem.run_bind, pnil_run hu]
    · cases h
  · cases h

theorem stepQ_ok (hS : S.WF) (ha : Tm N S.Td a) {M : Nat → Prop} {w0 w1 : World} (H : HS M w0 w1 S) (h : stepQ X S o = some (φs, v, x)) (hφ : All φs) (hk : isLd o.op = true → KeepD no w1 w) : QOk X S o a w v x := by
  unfold stepQ at h
  split at h
  · rename_i y ho
    obtain ⟨u, hu, h⟩ := Option.map_eq_some_iff.1 h
    simp only [Prod.mk.injEq] at h
    obtain ⟨rfl, rfl, rfl⟩ := h
    obtain ⟨hyv, hyw, hyl⟩ := evS_eval hS ha hu
    refine QOk.mk0 hS ?_ hyw hyl
    unfold execOp; simp [ho, hyv]
  · rename_i y ho
    obtain ⟨u, hu, h⟩ := Option.map_eq_some_iff.1 h
    simp only [Prod.mk.injEq] at h
    obtain ⟨rfl, rfl, rfl⟩ := h
    obtain ⟨hyv, hyw, hyl⟩ := evS_eval hS ha hu
    refine QOk.mk0 hS ?_ hyw hyl
    unfold execOp; simp [ho, hyv]
  · rename_i y ho
    split at h
    · rename_i hu
      simp only [Option.some.injEq, Prod.mk.injEq] at h
      obtain ⟨rfl, rfl, rfl⟩ := h
      obtain ⟨hyv, hyw, hyl⟩ := evS_eval hS ha hu
      refine QOk.mk0 hS ?_ hyw hyl
      unfold execOp; simp [ho, hyv, TV.den, SV.den, S0.den]
    · rename_i hu
      simp only [Option.some.injEq, Prod.mk.injEq] at h
      obtain ⟨rfl, rfl, rfl⟩ := h
      obtain ⟨hyv, hyw, hyl⟩ := evS_eval hS ha hu
      refine QOk.mk0 hS ?_ hyw hyl
      unfold execOp; simp [ho, hyv, TV.den, SV.den, S0.den]
    · rename_i hu
      simp only [Option.some.injEq, Prod.mk.injEq] at h
      obtain ⟨rfl, rfl, rfl⟩ := h
      obtain ⟨hyv, hyw, hyl⟩ := evS_eval hS ha hu
      refine QOk.mk0 hS ?_ hyw hyl
      unfold execOp; simp [ho, hyv, TV.den]
    · exact dflt_ok hS ha h
  · rename_i y ix ho
    split at h
    · rename_i l hu
      obtain ⟨hyv, hyw, hyl⟩ := evS_eval hS ha hu
      obtain ⟨u, hu', h⟩ := Option.map_eq_some_iff.1 h
      simp only [Prod.mk.injEq] at h
      obtain ⟨rfl, rfl, rfl⟩ := h
      have key : ∀ {l : List (SV FM)} {ix : Nat}, l[ix]? = some u → svwf l → svlt S.E.length l = true → u.wf ∧ u.lt S.E.length = true := by
        intro l
        induction l with
        | nil => intro ix h; simp at h
        | cons b l ih =>
          intro ix h hw hl
          simp only [svlt, Bool.and_eq_true] at hl
          cases ix with
          | zero => simp only [List.getElem?_cons_zero, Option.some.injEq] at h; subst h; exact ⟨hw.1, hl.1⟩
          | succ ix => exact ih (by simpa using h) hw.2 hl.2
      obtain ⟨k1, k2⟩ := key hu' hyw hyl
      refine QOk.mk0 hS ?_ k1 k2
      unfold execOp
      have : (l.map (SV.den S.E)).toArray[ix]? = some (u.den S.E) := by simp [hu']
      simp only [ho, hyv, TV.den, Instr.extract, this, Sem.run_bind, Sem.run_pure, Result.andThen_ok]
    · cases h
  · rename_i ty y ho
    split at h
    · rename_i u hu
      obtain ⟨hyv, hyw, hyl⟩ := evS_eval hS ha hu
      obtain ⟨⟨φ', r⟩, hr, h⟩ := Option.map_eq_some_iff.1 h
      simp only [Prod.mk.injEq] at h
      obtain ⟨rfl, rfl, rfl⟩ := h
      obtain ⟨g1, g2, A, cs, off, g3, g4, g5⟩ := loadS_spec hS H hr hφ
      refine QOk.mk0 hS ?_ g1 g2
      have hyv : a.eval y = u.den S.E := hyv
      rw [g3] at hyv
      unfold execOp
      simp only [ho, hyv, Instr.loadAt, Instr.sureAddr, Sem.run_bind, Sem.run_pure, Result.andThen_ok, Ld.rd g4 ty off _ g5 w (hk (by rw [ho]; rfl))]
      rfl
    · cases h
  · rename_i ho; exact qIx_ok hS ha H ho h hφ
  · rename_i ho
    split at h
    · rename_i r hr
      simp only [Option.some.injEq] at h; subst h
      exact qIv_ok hS ha ho hr hφ
    · split at h
      · rename_i k n l hix hu hy
        obtain ⟨hi, -, -⟩ := evS_eval hS ha hix
        obtain ⟨hyv, -, -⟩ := evS_eval hS ha hy
        simp only [Option.some.injEq, Prod.mk.injEq] at h
        obtain ⟨rfl, rfl, rfl⟩ := h
        obtain ⟨h0, h1, h2, -⟩ := hφ
        refine QOk.mk0 hS ?_ trivial rfl
        have hmem : l.getD n.toNat 0 ∈ l := by rw [List.getD_eq_getElem?_getD, List.getElem?_eq_getElem h1]; exact List.getElem_mem h1
        obtain ⟨c, hc1, hc2⟩ := strOfNums_get h1 (h2 _ hmem)
        unfold execOp
        simp only [ho, hi, hyv, TV.den, SV.den, S0.den, Instr.index, asIntOf, Sem.run_bind, Sem.run_pure, Result.andThen_ok, run_underlying' hu, if_pos h0, hc1, one]
        rw [hc2]
      · cases h
  · rename_i ho; exact qFa_ok hS ha ho h
  · rename_i ho; exact qFd_ok hS ha ho h
  · rename_i ho; exact qBu_ok hS ha ho h
  · rename_i f b c ho
    split at h
    · rename_i b' c' hb hc
      simp only [Option.some.injEq, Prod.mk.injEq] at h
      obtain ⟨rfl, rfl, rfl⟩ := h
      obtain ⟨p1, p2, p3⟩ := evList_spec hS ha hb
      obtain ⟨q1, q2, q3⟩ := evList_spec hS ha hc
      refine QOk.mk0 hS ?_ ⟨p2, q2⟩ (by show (_ && _) = true; rw [p3, q3]; rfl)
      have e1 : b.map a.eval = (b'.map (SV.den S.E)).toArray := by rw [← p1, ← Array.toList_map]
      have e2 : c.map a.eval = (c'.map (SV.den S.E)).toArray := by rw [← q1, ← Array.toList_map]
      unfold execOp
      simp only [ho, e1, e2, Instr.makeFunc, Sem.run_bind, Sem.run_pure, Result.andThen_ok, TV.den]
    · cases h
  · rename_i ho; exact qSl_ok hS ha ho h hφ
  · rename_i op t y z t' ho
    split at h
    · rename_i r hr
      simp only [Option.some.injEq] at h; subst h
      exact qBin_ok hS ha ho hr hφ
    · split at h
      · rename_i r hr
        simp only [Option.some.injEq] at h; subst h
        exact qStr_ok hS ha ho hr hφ
      · exact dflt_ok hS ha h
  · rename_i y t ho
    split at h
    · rename_i l hu hy
      obtain ⟨hyv, -, -⟩ := evS_eval hS ha hy
      simp only [Option.some.injEq, Prod.mk.injEq] at h
      obtain ⟨rfl, rfl, rfl⟩ := h
      refine QOk.mk0 hS ?_ trivial rfl
      unfold execOp
      simp [ho, resolve, invoke, builtin, hyv, TV.den, SV.den, S0.den, Builtin.len_, run_underlying' hu, goInt, strOfNums_size, one]
    · exact dflt_ok hS ha h
  · rename_i src dst y ho
    split at h
    · rename_i k n k' k'' hu hs hd
      obtain ⟨hyv, hyw, hyl⟩ := evS_eval hS ha hu
      simp only [cond_eq_ite] at h
      have hr : (execOp a.eval o).run X.P w = .ok (.value (.int k'' (k''.wrap n))) w := by
        unfold execOp
        simp [ho, hyv, TV.den, SV.den, S0.den, convert, Sem.run_bind, run_underlying' hs, run_underlying' hd, Conv.intToInt]
      split at h
      · simp only [Option.some.injEq, Prod.mk.injEq] at h
        obtain ⟨rfl, rfl, rfl⟩ := h
        refine QOk.mk0 hS ?_ trivial rfl
        rw [hr, wrap_in hφ.1 hφ.2.1]; rfl
      · simp only [Option.some.injEq, Prod.mk.injEq] at h
        obtain ⟨rfl, rfl, rfl⟩ := h
        exact QOk.mk0 hS hr trivial rfl
    · exact dflt_ok hS ha h
  · rename_i op t y ho
    split at h
    · rename_i b hu
      obtain ⟨hyv, hyw, hyl⟩ := evS_eval hS ha hu
      simp only [Option.some.injEq, Prod.mk.injEq] at h
      obtain ⟨rfl, rfl, rfl⟩ := h
      refine QOk.mk0 hS ?_ trivial rfl
      unfold execOp
      simp only [ho, hyv, TV.den, SV.den, S0.den]
      simp [Op.unary, Sem.run_bind]
    · rename_i k n hu
      obtain ⟨hyv, hyw, hyl⟩ := evS_eval hS ha hu
      simp only [cond_eq_ite] at h
      have hr : (execOp a.eval o).run X.P w = .ok (.value (.int k (k.wrap (0 - n)))) w := by
        unfold execOp
        simp only [ho, hyv, TV.den, SV.den, S0.den]
        simp [Op.unary, Op.intArith, Sem.run_bind]
      split at h
      · simp only [Option.some.injEq, Prod.mk.injEq] at h
        obtain ⟨rfl, rfl, rfl⟩ := h
        refine QOk.mk0 hS ?_ trivial rfl
        rw [hr, wrap_in hφ.1 hφ.2.1]; rfl
      · simp only [Option.some.injEq, Prod.mk.injEq] at h
        obtain ⟨rfl, rfl, rfl⟩ := h
        exact QOk.mk0 hS hr trivial rfl
    · rename_i k n hu
      obtain ⟨hyv, hyw, hyl⟩ := evS_eval hS ha hu
      simp only [Option.some.injEq, Prod.mk.injEq] at h
      obtain ⟨rfl, rfl, rfl⟩ := h
      refine QOk.mk0 hS ?_ trivial rfl
      unfold execOp
      simp only [ho, hyv, TV.den, SV.den, S0.den]
      simp [Op.unary, Op.intBits, Sem.run_bind, bxr, one, SV.den, S0.den]
    · exact dflt_ok hS ha h
  · exact dflt_ok hS ha h
end
end Go.Px
