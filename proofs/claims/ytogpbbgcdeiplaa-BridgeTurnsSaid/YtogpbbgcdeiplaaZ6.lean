/-
  That an operation yields what was computed. No condition.
-/
import Derived.Test.YtogpbbgcdeiplaaZ5
set_option linter.all false
namespace Go.Px
open Go.RowKit

section
variable {FM : Nat → Fm}

def isLd : Op → Bool
  | .load .. => true
  | _ => false

/-- What an operation that yields a value is shown to do. -/
structure QOk (X : Cx) (S : SS FM) (o : Oper) (a : Act) (w : World) (v : TV FM) (x : List (Ad × Vw)) : Prop where
  run : (execOp a.eval o).run X.P w = .ok (.value (v.den (S.E ++ x.map (·.1)))) w
  wf : v.wf
  lt : v.lt (S.E.length + x.length) = true
  vw : vwf (S.E ++ x.map (·.1)) (x.map (·.2) ++ S.V)

theorem QOk.mk0 {X : Cx} {S : SS FM} (hS : S.WF) {o : Oper} {a : Act} {w : World} {v : TV FM} (h1 : (execOp a.eval o).run X.P w = .ok (.value (v.den S.E)) w) (h2 : v.wf) (h3 : v.lt S.E.length = true) : QOk X S o a w v [] :=
  ⟨by simpa using h1, h2, by simpa using h3, by simpa using hS.v⟩

variable {X : Cx} {S : SS FM} {o : Oper} {a : Act} {w : World} {N : FN} {v : TV FM} {φs : List Prop} {x : List (Ad × Vw)}

theorem evS_eval (hS : S.WF) (ha : Tm N S.Td a) {ty : Option TypeId} {y : Operand} {t : TV FM} (h : evS X S ty y = some t) : a.eval y = t.den S.E ∧ t.wf ∧ t.lt S.E.length = true := by
  obtain ⟨h1, h2, h3⟩ := evS_spec hS h
  exact ⟨evT_spec ha h1, h2, h3⟩

theorem dflt_ok (hS : S.WF) (ha : Tm N S.Td a) (h : dflt X S o = some (φs, v, x)) : QOk X S o a w v x := by
  unfold dflt at h
  split at h
  · rename_i u hu
    simp only [cond_eq_ite] at h
    split at h
    · simp only [Option.some.injEq, Prod.mk.injEq] at h
      obtain ⟨rfl, rfl, rfl⟩ := h
      exact QOk.mk0 hS (opNext_spec ha hu w) trivial rfl
    · cases h
  · cases h

theorem plc_add (E : List Ad) (id off k : Nat) : (plc E id off).add k = plc E id (off + k) := by
  rw [plc_adr, plc_adr, adr_add]

theorem bas_zero {E : List Ad} {id k : Nat} : adr (bas E id 0) k = plc E id k := (plc_adr E id k).symm
theorem bas_adr {E : List Ad} {id o k : Nat} (h : isbk E id = true) : adr (bas E id o) k = plc E id (o + k) := by
  rw [bas_bk h, adr_some, plc_adr, bas_bk h, adr_some, Nat.zero_add]

theorem ix_run {P : Program} {t : TypeId} {xv iv : Value} {n : Int} {k : IntKind} {A : Addr} {len e s c : Nat} (hiv : iv = .int k n)
    (hx : (P.underlying t = some (.array len e) ∧ xv = .pointer (some A)) ∨ (P.underlying t = some (.slice e) ∧ xv = .slice (some A) len c)) (hs : sizeB P e = some s) (h0 : 0 ≤ n) (h1 : n < len) (w : World) :
    (Instr.indexAt t xv iv).run P w = .ok (.pointer (some (A.add (n.toNat * s)))) w := by
  subst hiv
  rcases hx with ⟨hu, rfl⟩ | ⟨hu, rfl⟩
  · simp only [Instr.indexAt, Instr.sureAddr, asIntOf, Sem.run_bind, Sem.run_pure, Result.andThen_ok, run_underlying' hu, if_pos (And.intro h0 h1), pureRun_spec hs]
  · simp only [Instr.indexAt, asIntOf, Sem.run_bind, Sem.run_pure, Result.andThen_ok, run_underlying' hu, if_pos (And.intro h0 h1), pureRun_spec hs]

theorem qIx_ok (hS : S.WF) (ha : Tm N S.Td a) {M : Nat → Prop} {w0 w1 : World} (H : HS M w0 w1 S) {t : TypeId} {y ix : Operand} (ho : o.op = .indexAddr t y ix) (h : qIx X S t y ix = some (φs, v, x)) (hφ : All φs) : QOk X S o a w v x := by
  unfold qIx at h
  split at h
  · rename_i k n hix
    obtain ⟨hi, -, -⟩ := evS_eval hS ha hix
    have hrun : ∀ {A : Addr} {len e s c : Nat}, ((X.P.underlying t = some (.array len e) ∧ a.eval y = .pointer (some A)) ∨ (X.P.underlying t = some (.slice e) ∧ a.eval y = .slice (some A) len c)) → sizeB X.P e = some s → 0 ≤ n → n < len →
        (execOp a.eval o).run X.P w = .ok (.value (.pointer (some (A.add (n.toNat * s))))) w := by
      intro A len e s c hx hs h0 h1
      unfold execOp
      simp only [ho, Sem.run_bind, ix_run (P := X.P) (iv := a.eval ix) (k := k) (n := n) hi hx hs h0 h1 w, Result.andThen_ok, Sem.run_pure]
    split at h
    · rename_i len e id off hu hy
      obtain ⟨hyv, hyw, hyl⟩ := evS_eval hS ha hy
      obtain ⟨s, hs, h⟩ := Option.bind_eq_some_iff.1 h
      simp only [cond_eq_ite] at h
      split at h
      · split at h
        · rename_i hc
          have hc := of_decide_eq_true hc
          simp only [Option.some.injEq, Prod.mk.injEq] at h
          obtain ⟨rfl, rfl, rfl⟩ := h
          refine QOk.mk0 hS ?_ trivial hyl
          rw [hrun (c := 0) (.inl ⟨hu, hyv⟩) hs hc.1 hc.2, plc_add]; rfl
        · cases h
      · simp only [Option.some.injEq, Prod.mk.injEq] at h
        obtain ⟨rfl, rfl, rfl⟩ := h
        refine QOk.mk0 hS ?_ trivial hyl
        rw [hrun (c := 0) (.inl ⟨hu, hyv⟩) hs hφ.1 hφ.2.1, plc_add]; rfl
    · rename_i len e id o1 i1 st o2 hu hy
      obtain ⟨hyv, hyw, hyl⟩ := evS_eval hS ha hy
      obtain ⟨s, hs, h⟩ := Option.bind_eq_some_iff.1 h
      simp only [cond_eq_ite] at h
      split at h
      · split at h
        · rename_i hc
          have hc := of_decide_eq_true hc
          simp only [Option.some.injEq, Prod.mk.injEq] at h
          obtain ⟨rfl, rfl, rfl⟩ := h
          refine QOk.mk0 hS ?_ trivial hyl
          rw [hrun (c := 0) (.inl ⟨hu, hyv⟩) hs hc.1 hc.2, plc_add]
          simp only [TV.den, SV.den, S0.den, Nat.add_assoc]
        · cases h
      · cases h
    · rename_i e id o1 len cap tr0 hu hy
      obtain ⟨hyv, hyw, hyl⟩ := evS_eval hS ha hy
      have hyv' : a.eval y = .slice (bas S.E id o1) len cap := hyv
      obtain ⟨s, hs, h⟩ := Option.bind_eq_some_iff.1 h
      simp only [cond_eq_ite] at h
      split at h
      · rename_i hb
        rw [bas_bk hb] at hyv'
        have key : ∀ (h0 : 0 ≤ n) (h1 : n < len), (execOp a.eval o).run X.P w = .ok (.value (.pointer (some (plc S.E id (o1 + n.toNat * s))))) w := by
          intro h0 h1
          rw [hrun (.inr ⟨hu, hyv'⟩) hs h0 h1, ← bas_adr (o := o1) hb, bas_bk hb]
          simp [adr]
        split at h
        · simp only [Option.some.injEq, Prod.mk.injEq] at h
          obtain ⟨rfl, rfl, rfl⟩ := h
          exact QOk.mk0 hS (key hφ.1 hφ.2.1) trivial hyl
        · simp only [Option.some.injEq, Prod.mk.injEq] at h
          obtain ⟨rfl, rfl, rfl⟩ := h
          exact QOk.mk0 hS (key hφ.1 hφ.2.1) trivial hyl
      · split at h
        · rename_i ho0
          have ho1 := beq_n ho0
          obtain ⟨⟨c, φ'⟩, hc, h⟩ := Option.bind_eq_some_iff.1 h
          obtain ⟨m, hm, h⟩ := Option.bind_eq_some_iff.1 h
          split at h
          · rename_i hs1
            have hs1 := Nat.le_of_ble_eq_true hs1
            simp only [Option.some.injEq, Prod.mk.injEq] at h
            obtain ⟨rfl, rfl, rfl⟩ := h
            obtain ⟨h0, h1, h2, h3⟩ := hφ
            obtain ⟨q1, q2, q3⟩ := rdOf_spec hS H hc h3
            have hpos : 0 < (cden S.E c).length := by
              obtain ⟨⟨p, y', b⟩, g1, hm⟩ := Option.bind_eq_some_iff.1 hm
              obtain ⟨⟨e', m'⟩, g2, rfl⟩ := Option.map_eq_some_iff.1 hm
              obtain ⟨rfl, g3⟩ := catq_spec g1
              obtain ⟨-, -, -, -, g4⟩ := Sg.elem_spec (E := S.E) (N := 0) g2 (cwf_append.1 q2).2.1 h2
              have := Sg.len (E := S.E) (cwf_append.1 q2).2.1
              rw [cden_append]; simp only [cden, List.length_append]; omega
            obtain ⟨A0, hA0⟩ := Option.isSome_iff_exists.1 (q1.isSome hpos)
            subst ho1
            rw [hA0] at hyv'
            refine QOk.mk0 hS ?_ trivial hyl
            rw [hrun (.inr ⟨hu, hyv'⟩) hs h0 h1]
            simp only [TV.den, SV.den, S0.den, Nat.zero_add, Nat.add_zero, ← bas_zero, hA0]
            rfl
          · cases h
        · cases h
    · cases h
    · cases h
  · cases h

theorem qIv_ok (hS : S.WF) (ha : Tm N S.Td a) {t : TypeId} {y ix : Operand} (ho : o.op = .index t y ix) (h : qIv X S t y ix = some (φs, v, x)) (hφ : All φs) : QOk X S o a w v x := by
  unfold qIv at h
  split at h
  · rename_i k n len e c hix hu hy
    obtain ⟨hi, -, -⟩ := evS_eval hS ha hix
    obtain ⟨hyv, hyw, hyl⟩ := evS_eval hS ha hy
    obtain ⟨s, hs, h⟩ := Option.bind_eq_some_iff.1 h
    have hyw : cwf c := hyw
    have hyl : cok S.E.length c = true := hyl
    have key : ∀ {u : SV FM} (h0 : 0 ≤ n) (h1 : n < len), ((aggB X.P e = some false ∧ (cden S.E c)[n.toNat * s]? = some (u.den S.E)) ∨ (∃ n', aggB X.P e = some true ∧ sizeB X.P e = some n' ∧ n.toNat * s + n' ≤ (cden S.E c).length ∧ u.den S.E = .agg (((cden S.E c).drop (n.toNat * s)).take n').toArray)) →
        (execOp a.eval o).run X.P w = .ok (.value (u.den S.E)) w := by
      intro u h0 h1 hv
      unfold execOp
      simp only [ho, hi, hyv, TV.den, SV.den, S0.den, Instr.index, asIntOf, Sem.run_bind, Sem.run_pure, Result.andThen_ok, run_underlying' hu, if_pos (And.intro h0 h1), pureRun_spec hs, part_run hv]
    simp only [cond_eq_ite] at h
    split at h
    · split at h
      · rename_i hc
        have hc := of_decide_eq_true hc
        obtain ⟨u, hu', h⟩ := Option.map_eq_some_iff.1 h
        simp only [Prod.mk.injEq] at h
        obtain ⟨rfl, rfl, rfl⟩ := h
        obtain ⟨g1, g2, g3⟩ := ldS_spec (E := S.E) (N := S.E.length) (cs := cden S.E c) (off := n.toNat * s) hu' fun n' r hr => by
          obtain ⟨p1, p2, p3, p4, p5⟩ := csub_spec (E := S.E) hr hyw hyl
          exact ⟨p1, p2, p3, p4, by rw [clen hyw]; exact p5⟩
        exact QOk.mk0 hS (key hc.1 hc.2 g3) g1 g2
      · cases h
    · obtain ⟨m, hm, h⟩ := Option.bind_eq_some_iff.1 h
      obtain ⟨u, hu', h⟩ := Option.map_eq_some_iff.1 h
      simp only [Prod.mk.injEq] at h
      obtain ⟨rfl, rfl, rfl⟩ := h
      obtain ⟨g1, g2, g3⟩ := ldS_spec (E := S.E) (N := S.E.length) (cs := cden S.E c) (off := n.toNat * s) hu' fun n' r hr => by
        obtain ⟨⟨r', m'⟩, hr', rfl⟩ := Option.map_eq_some_iff.1 hr
        have := cdynm_of hr' hm; subst this
        obtain ⟨p1, p2, p3, p4, p5⟩ := cdyn_spec (E := S.E) (N := S.E.length) hr' hyw hφ.2.2.1
        simp only [Nat.zero_add, Nat.add_zero] at p1 p5
        exact ⟨by rw [up0_den]; exact p1, up0_wf p2, up0_ok p3, by rw [up0_n]; exact p4, p5⟩
      exact QOk.mk0 hS (key hφ.1 hφ.2.1 g3) g1 g2
  · cases h

theorem fieldAt_run {P : Program} {t f s : Nat} {fs : Array Field} {fd : Field} {A : Addr} (hu : P.underlying t = some (.struct fs)) (hf : fs[f]? = some fd) (hs : sizeB P fd.type = some s) (h1 : 1 ≤ s) (w : World) :
    (Instr.fieldAt t (.pointer (some A)) f).run P w = .ok (.pointer (some (A.add fd.offset))) w := by
  unfold Instr.fieldAt fieldPlace
  simp only [Sem.run_bind, run_underlying' hu, Result.andThen_ok, hf, Instr.sureAddr, Sem.run_pure, pureRun_spec hs]
  rw [if_neg (by omega)]
  simp

theorem qFa_ok (hS : S.WF) (ha : Tm N S.Td a) {t f : Nat} {y : Operand} (ho : o.op = .fieldAddr t y f) (h : qFa X S t y f = some (φs, v, x)) : QOk X S o a w v x := by
  unfold qFa at h
  split at h
  · rename_i fs id off hu hy
    obtain ⟨hyv, hyw, hyl⟩ := evS_eval hS ha hy
    split at h
    · rename_i fd hf
      obtain ⟨s, hs, h⟩ := Option.bind_eq_some_iff.1 h
      simp only [cond_eq_ite] at h
      split at h
      · rename_i h1
        simp only [Option.some.injEq, Prod.mk.injEq] at h
        obtain ⟨rfl, rfl, rfl⟩ := h
        refine QOk.mk0 hS ?_ trivial hyl
        unfold execOp
        simp only [ho, hyv, TV.den, SV.den, S0.den, Sem.run_bind, fieldAt_run hu hf hs (Nat.le_of_ble_eq_true h1), Result.andThen_ok, Sem.run_pure, plc_add]
      · cases h
    · cases h
  · rename_i fs id o1 i1 st o2 hu hy
    obtain ⟨hyv, hyw, hyl⟩ := evS_eval hS ha hy
    split at h
    · rename_i fd hf
      obtain ⟨s, hs, h⟩ := Option.bind_eq_some_iff.1 h
      simp only [cond_eq_ite] at h
      split at h
      · rename_i h1
        simp only [Option.some.injEq, Prod.mk.injEq] at h
        obtain ⟨rfl, rfl, rfl⟩ := h
        refine QOk.mk0 hS ?_ trivial hyl
        unfold execOp
        simp only [ho, hyv, TV.den, SV.den, S0.den, Sem.run_bind, fieldAt_run hu hf hs (Nat.le_of_ble_eq_true h1), Result.andThen_ok, Sem.run_pure, plc_add, Nat.add_assoc]
      · cases h
    · cases h
  · cases h

theorem qFd_ok (hS : S.WF) (ha : Tm N S.Td a) {t f : Nat} {y : Operand} (ho : o.op = .field t y f) (h : qFd X S t y f = some (φs, v, x)) : QOk X S o a w v x := by
  unfold qFd at h
  split at h
  · rename_i fs c hu hy
    obtain ⟨hyv, hyw, hyl⟩ := evS_eval hS ha hy
    have hyw : cwf c := hyw
    have hyl : cok S.E.length c = true := hyl
    split at h
    · rename_i fd hf
      obtain ⟨u, hu', h⟩ := Option.map_eq_some_iff.1 h
      simp only [Prod.mk.injEq] at h
      obtain ⟨rfl, rfl, rfl⟩ := h
      obtain ⟨g1, g2, g3⟩ := ldS_spec (E := S.E) (N := S.E.length) (cs := cden S.E c) (off := fd.offset) hu' fun n' r hr => by
        obtain ⟨p1, p2, p3, p4, p5⟩ := csub_spec (E := S.E) hr hyw hyl
        exact ⟨p1, p2, p3, p4, by rw [clen hyw]; exact p5⟩
      refine QOk.mk0 hS ?_ g1 g2
      unfold execOp
      simp only [ho, hyv, TV.den, SV.den, Instr.field, asAgg, Sem.run_bind, Sem.run_pure, Result.andThen_ok, run_underlying' hu, hf, part_run g3]
    · cases h
  · cases h

theorem evParts_spec (hS : S.WF) (ha : Tm N S.Td a) : ∀ {ps : List (Nat × Operand)} {l : List (Nat × SV FM)}, evParts X S ps = some l → ps.map (fun (i, y) => (i, a.eval y)) = sps S.E l ∧ spwf l
  | [], l, h => by simp [evParts] at h; subst h; exact ⟨rfl, trivial⟩
  | (i, y) :: r, l, h => by
    simp only [evParts] at h
    split at h
    · rename_i u l' hu hl
      simp only [Option.some.injEq] at h; subst h
      obtain ⟨hyv, hyw, hyl⟩ := evS_eval hS ha hu
      obtain ⟨g1, g2⟩ := evParts_spec hS ha hl
      exact ⟨by simp only [List.map_cons, sps, g1, hyv]; rfl, hyw, g2⟩
    · cases h

theorem qBu_ok (hS : S.WF) (ha : Tm N S.Td a) {t : Nat} {ps : Array (Nat × Operand)} (ho : o.op = .build t ps) (h : qBu X S t ps = some (φs, v, x)) : QOk X S o a w v x := by
  unfold qBu at h
  split at h
  · rename_i d z l hu hz hl
    obtain ⟨s, hs, h⟩ := Option.bind_eq_some_iff.1 h
    obtain ⟨c, hc, h⟩ := Option.bind_eq_some_iff.1 h
    obtain ⟨pl, hpl, h⟩ := Option.bind_eq_some_iff.1 h
    obtain ⟨r, hr, h⟩ := Option.map_eq_some_iff.1 h
    simp only [Prod.mk.injEq] at h
    obtain ⟨rfl, rfl, rfl⟩ := h
    obtain ⟨q1, q2, q3⟩ := rgA_spec (E := S.E) (N := S.E.length) hc
    obtain ⟨e1, e2⟩ := evParts_spec hS ha hl
    obtain ⟨g1, g2, g3, g4⟩ := bfill_spec (E := S.E) hr q2 q3 e2
    refine QOk.mk0 hS ?_ g2 g3
    have hf : Instr.fill pl z.cells (ps.map fun (i, y) => (i, a.eval y)).toList = some (cden S.E r).toArray := by
      rw [Array.toList_map, e1, ← g1, ← q1]
    unfold execOp
    simp only [ho, Sem.run_bind, build_run hu hz hpl hf, Result.andThen_ok, Sem.run_pure]
    rfl
  · cases h

theorem evList_spec (hS : S.WF) (ha : Tm N S.Td a) : ∀ {ps : List Operand} {l : List (SV FM)}, evList X S ps = some l → ps.map a.eval = l.map (SV.den S.E) ∧ svwf l ∧ svlt S.E.length l = true
  | [], l, h => by simp [evList] at h; subst h; exact ⟨rfl, trivial, rfl⟩
  | y :: r, l, h => by
    simp only [evList] at h
    split at h
    · rename_i u l' hu hl
      simp only [Option.some.injEq] at h; subst h
      obtain ⟨hyv, hyw, hyl⟩ := evS_eval hS ha hu
      obtain ⟨g1, g2, g3⟩ := evList_spec hS ha hl
      exact ⟨by simp only [List.map_cons, g1, hyv]; rfl, ⟨hyw, g2⟩, by simp only [svlt, Bool.and_eq_true]; exact ⟨hyl, g3⟩⟩
    · cases h

theorem eqA_run {P : Program} {t : TypeId} {u u' : List Value} {ks : List CK} {c : Bool} {n : Nat} (hn : n ≤ 10000) (hk : eqK P n t = some ks) (hg : aggB P t = some true) (h1 : u.map kd = ks.map some) (h2 : u'.map kd = ks.map some) (hc : c = true ↔ u = u') (w : World) :
    (Op.equalIn 10000 t (.agg u.toArray) (.agg u'.toArray)).run P w = .ok c w := by
  have hE := EqV.flat (P := P) (n := n) (t := t) (by rw [hk, hg]) h1 h2 c hc
  have := hE (10000 - n) w
  rw [show 10000 - n + n = 10000 by omega] at this
  exact this

theorem qBin_ok (hS : S.WF) (ha : Tm N S.Td a) {op : BinOp} {t t' : Nat} {y z : Operand} (ho : o.op = .binOp op t y z t') (h : qBin X S op t y z = some (φs, v, x)) (hφ : All φs) : QOk X S o a w v x := by
  unfold qBin at h
  split at h
  · rename_i k n k' n' hy hz
    obtain ⟨hyv, -, -⟩ := evS_eval hS ha hy
    obtain ⟨hzv, -, -⟩ := evS_eval hS ha hz
    simp only [cond_eq_ite] at h
    split at h
    · rename_i hk
      obtain ⟨⟨φ', u⟩, hu, h⟩ := Option.map_eq_some_iff.1 h
      simp only [Prod.mk.injEq] at h
      obtain ⟨rfl, rfl, rfl⟩ := h
      refine QOk.mk0 hS ?_ trivial rfl
      have hk' : k = k' ∨ op = .shl ∨ op = .shr := by
        simp only [Bool.or_eq_true, decide_eq_true_eq] at hk
        rcases hk with h | h
        · exact .inl h
        · right; cases op <;> simp [isSh] at h ⊢
      have hr := ibin_run (P := X.P) (nw := X.nw) hu hφ (fun e => by simp only [Bool.and_eq_true, decide_eq_true_eq] at e; exact e.2) t y z hk' w
      unfold execOp
      simp only [ho, hyv, hzv, TV.den, SV.den, S0.den]
      simp only [Sem.run_bind] at hr ⊢
      rw [hr]
      rfl
    · cases h
  · rename_i c d hy hz
    obtain ⟨hyv, hyw, hyl⟩ := evS_eval hS ha hy
    obtain ⟨hzv, hzw, hzl⟩ := evS_eval hS ha hz
    have main : ∀ (op' : BinOp) (e : Bool), (op' = .eql ∨ op' = .neq) → op = op' → ∀ {ka kb : List CK} {q : Option Bool}, ckd c = some ka → ckd d = some kb → ceq c d = some q →
        (decide (ka = kb) && eqOk X.P t ka) = true →
        (e = (match op' with | .eql => bany q | _ => !bany q)) → QOk X S o a w (one (.bool e)) [] := by
      intro op' e hop hoe ka kb q hka hkb hq hc he
      simp only [eqOk, Bool.and_eq_true, decide_eq_true_eq, Bool.not_eq_true'] at hc
      obtain ⟨rfl, ⟨hg, hgu⟩, hk⟩ := hc
      have hg := isB_spec hg
      split at hk
      · rename_i ks hks
        have := of_decide_eq_true hk; subst this
        have hr := eqA_run (P := X.P) (n := 12) (by omega) hks hg (ckd_spec (E := S.E) hka hyw) (ckd_spec (E := S.E) hkb hzw) (ceq_spec (E := S.E) hq hyw hzw) w
        refine QOk.mk0 hS ?_ trivial rfl
        unfold execOp
        subst he hoe
        rcases hop with rfl | rfl
        · simp only [ho, hyv, hzv, TV.den, SV.den, S0.den, one]
          simp [eqGuard, program, Sem.run, hgu, binOp, Op.equal, Op.maxDepth, hr]
        · simp only [ho, hyv, hzv, TV.den, SV.den, S0.den, one]
          simp [eqGuard, program, Sem.run, hgu, binOp, Op.equal, Op.maxDepth, hr]
      · cases hk
    split at h
    · split at h
      · rename_i ka kb q hka hkb hq
        simp only [cond_eq_ite] at h
        split at h
        · rename_i hc
          simp only [Option.some.injEq, Prod.mk.injEq] at h
          obtain ⟨rfl, rfl, rfl⟩ := h
          exact main .eql _ (.inl rfl) rfl hka hkb hq hc rfl
        · cases h
      · cases h
    · split at h
      · rename_i ka kb q hka hkb hq
        simp only [cond_eq_ite] at h
        split at h
        · rename_i hc
          simp only [Option.some.injEq, Prod.mk.injEq] at h
          obtain ⟨rfl, rfl, rfl⟩ := h
          exact main .neq _ (.inr rfl) rfl hka hkb hq hc rfl
        · cases h
      · cases h
    · cases h
  · cases h
end
end Go.Px
