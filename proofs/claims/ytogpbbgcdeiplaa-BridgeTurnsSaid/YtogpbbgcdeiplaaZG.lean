/-
  Stores and calls, and the walk as a whole: that what is computed is enough. No condition.
-/
import Derived.Test.YtogpbbgcdeiplaaZE
set_option linter.all false
namespace Go.Px
open Go.RowKit

section
variable {FM : Nat → Fm}
variable {X : Cx} {N : FN} {ops : Array Oper} {fl : FL} {S : SS FM} {Q : Exit → Act → World → Prop} {w : World} {M : Nat → Prop} {w0 : World}

theorem SS.WF.setm (hS : S.WF) {k : Nat} {p : Pc FM} (h1 : p.wf) (h2 : p.lt S.E.length = true) (h3 : p.bkok S.E = true) : ({ S with m := S.m.set k p } : SS FM).WF :=
  ⟨mbk_set hS.b h3, hS.r, hS.t, hS.tl, mwf_set hS.m h1, mlt_set hS.ml h2, hS.v⟩

theorem store_bk (hS : S.WF) (H : Hp M w0 w S.md) {i : Nat} {rest : OT} {o : Oper} {ty n id j k off : Nat} {y z : Operand} {A : S0} {v : SV FM} {c c' : Ce FM} {t : TypeId}
    (ho : ops[i]? = some o) (hd : dstOk N o.dst = true) (hg : gst S.T ops o = some .want) (hf : fl i = 3) (hop : o.op = .store ty y z) (hdst : o.dst = none)
    (hy : evS X S none y = some (.v (.one A))) (hA : A.den S.E = .pointer (some (plc S.E id off))) (hz : evT S.Td z = some (v.den S.E) ∧ v.wf) (hn : sizeB X.P ty = some n) (hcn : cn v.ce = n) (hck : cok S.E.length v.ce = true)
    (hp : pcAt S.m id = some (k, .bk j c t)) (g1 : cden S.E c' = blit (cden S.E c) off (cden S.E v.ce)) (g2 : cwf c') (g3 : cok S.E.length c' = true) (g5 : off + n ≤ (cden S.E c).length) :
    ({ S with m := S.m.set k (.bk j c' t) } : SS FM).WF ∧ ((∀ w', Hp M w0 w' ({ S with m := S.m.set k (.bk j c' t) } : SS FM).md → WC X.P N ops Q fl rest S.Td w') → WC X.P N ops Q fl (.s i rest) S.Td w) := by
  obtain ⟨p1, p2, p3⟩ := pcAt_spec (E := S.E) hp
  simp only [Pc.id?, Option.some.injEq] at p3; subst p3
  have hbk : isbk S.E j = true := mbk_at hS.b p1
  have hlt := mlt_at hS.ml p1
  have hlt : (Nat.blt j S.E.length && cok S.E.length c) = true := hlt
  simp only [Bool.and_eq_true] at hlt
  refine ⟨hS.setm g2 (by show (Nat.blt j S.E.length && cok S.E.length c') = true; rw [hlt.1, g3]; rfl) hbk, fun h => ?_⟩
  obtain ⟨e1, -, -⟩ := evS_spec hS hy
  obtain ⟨e2, hvw⟩ := hz
  have hcells := SV.ce_cells (E := S.E) hck
  have hvl := clen (E := S.E) (SV.ce_wf hvw)
  have e1 : evT S.Td y = some (.pointer (some (plc S.E j off))) := by rw [e1]; exact congrArg some hA
  rw [plc_bk hbk] at e1
  refine wc_st H k (b := bno S.E j) (off := off) (Tb := t) (vs := cden S.E v.ce) (cs' := cden S.E c') ty (v.den S.E) n ?_ hcells p2 (by rw [hvl, hcn]) g5 (cflat hck) g1.symm (fun w' H' => h w' ?_)
  · rw [show opT N ops S.Td i = some o from opT_of (T := S.T) ho hd hg]
    simp only [Option.bind_some, stT, hop, hdst, e1, e2, hf, hn]
  · have : (mden S.E S.m).set k (.bk (bno S.E j) (row (cden S.E c') t)) = mden S.E (S.m.set k (.bk j c' t)) := by rw [mden_set]; rfl
    rw [SS.md] at H'
    rw [this] at H'; exact H'

theorem store_sl (hS : S.WF) (H : Hp M w0 w S.md) {i : Nat} {rest : OT} {o : Oper} {ty n id j k off a0 b0 e s : Nat} {y z : Operand} {A : S0} {v : SV FM} {c c' : Ce FM}
    (ho : ops[i]? = some o) (hd : dstOk N o.dst = true) (hg : gst S.T ops o = some .want) (hf : fl i = 3) (hop : o.op = .store ty y z) (hdst : o.dst = none)
    (hy : evS X S none y = some (.v (.one A))) (hA : A.den S.E = .pointer (some (plc S.E id off))) (hz : evT S.Td z = some (v.den S.E) ∧ v.wf) (hn : sizeB X.P ty = some n) (hcn : cn v.ce = n) (hck : cok S.E.length v.ce = true) (hn1 : 1 ≤ n)
    (hp : pcAt S.m id = some (k, .sl j a0 b0 c e s)) (g1 : cden S.E c' = blit (cden S.E c) off (cden S.E v.ce)) (g2 : cwf c') (g3 : cok S.E.length c' = true) (g5 : off + n ≤ (cden S.E c).length) :
    ({ S with m := S.m.set k (.sl j a0 b0 c' e s) } : SS FM).WF ∧ ((∀ w', Hp M w0 w' ({ S with m := S.m.set k (.sl j a0 b0 c' e s) } : SS FM).md → WC X.P N ops Q fl rest S.Td w') → WC X.P N ops Q fl (.s i rest) S.Td w) := by
  obtain ⟨p1, p2, p3⟩ := pcAt_spec (E := S.E) hp
  simp only [Pc.id?, Option.some.injEq] at p3; subst p3
  have hlt := mlt_at hS.ml p1
  have hlt : (Nat.blt j S.E.length && cok S.E.length c) = true := hlt
  simp only [Bool.and_eq_true] at hlt
  refine ⟨hS.setm g2 (by show (Nat.blt j S.E.length && cok S.E.length c') = true; rw [hlt.1, g3]; rfl) rfl, fun h => ?_⟩
  obtain ⟨e1, -, -⟩ := evS_spec hS hy
  obtain ⟨e2, hvw⟩ := hz
  have hcells := SV.ce_cells (E := S.E) hck
  have hvl := clen (E := S.E) (SV.ce_wf hvw)
  have e1 : evT S.Td y = some (.pointer (some (plc S.E j off))) := by rw [e1]; exact congrArg some hA
  rw [plc_adr] at e1
  refine wc_stS H k (A := bas S.E j 0) (nn := a0) (c := b0) (e := e) (s := s) (off := off) (xs := cden S.E c) (vs := cden S.E v.ce) (xs' := cden S.E c') ty (v.den S.E) n ?_ hcells p2 (by rw [hvl, hcn]) (by omega) g5 (cflat hck) g1.symm (fun w' H' => h w' ?_)
  · rw [show opT N ops S.Td i = some o from opT_of (T := S.T) ho hd hg]
    simp only [Option.bind_some, stT, hop, hdst, e1, e2, hf, hn]
  · have : (mden S.E S.m).set k (.sl (bas S.E j 0) a0 b0 (cden S.E c') e s) = mden S.E (S.m.set k (.sl j a0 b0 c' e s)) := by rw [mden_set]; rfl
    rw [SS.md] at H'
    rw [this] at H'; exact H'

theorem stS_ok (hS : S.WF) (H : Hp M w0 w S.md) {i : Nat} {rest : OT} {o : Oper} {φ : List Prop} {S' : SS FM} (ho : ops[i]? = some o) (hd : dstOk N o.dst = true) (hg : gst S.T ops o = some .want) (hf : fl i = 3)
    (h : stS X S o = some (φ, S')) (hφ : All φ) : S'.WF ∧ S'.T = S.T ∧ S'.E = S.E ∧ S'.R = S.R ∧ ((∀ w', Hp M w0 w' S'.md → WC X.P N ops Q fl rest S.Td w') → WC X.P N ops Q fl (.s i rest) S.Td w) := by
  unfold stS at h
  split at h
  · rename_i ty y z hop hdst
    split at h
    · rename_i id off v n hy hz hn
      split at h
      · rename_i k j c t hp
        simp only [cond_eq_ite] at h
        split at h
        · rename_i hc
          simp only [Bool.and_eq_true] at hc
          obtain ⟨c', hc', h⟩ := Option.map_eq_some_iff.1 h
          simp only [Prod.mk.injEq] at h
          obtain ⟨rfl, rfl⟩ := h
          obtain ⟨p1, -, -⟩ := pcAt_spec (E := S.E) hp
          have hw : cwf c := mwf_at hS.m p1
          have hl : (Nat.blt j S.E.length && cok S.E.length c) = true := mlt_at hS.ml p1
          simp only [Bool.and_eq_true] at hl
          obtain ⟨hz1, hvw, -⟩ := evS_spec hS hz
          have hcn := beq_n hc.1
          obtain ⟨g1, g2, g3, g4, g5⟩ := cput_spec (E := S.E) hc' hw hl.2 (SV.ce_wf hvw) hc.2
          obtain ⟨r1, r2⟩ := store_bk (Q := Q) (rest := rest) hS H ho hd hg hf hop hdst hy rfl ⟨hz1, hvw⟩ hn hcn hc.2 hp g1 g2 g3 (by rw [clen hw]; omega)
          exact ⟨r1, rfl, rfl, rfl, r2⟩
        · cases h
      · rename_i k j a0 b0 c e s hp
        simp only [cond_eq_ite] at h
        split at h
        · rename_i hc
          simp only [Bool.and_eq_true] at hc
          obtain ⟨c', hc', h⟩ := Option.map_eq_some_iff.1 h
          simp only [Prod.mk.injEq] at h
          obtain ⟨rfl, rfl⟩ := h
          obtain ⟨p1, -, -⟩ := pcAt_spec (E := S.E) hp
          have hw : cwf c := mwf_at hS.m p1
          have hl : (Nat.blt j S.E.length && cok S.E.length c) = true := mlt_at hS.ml p1
          simp only [Bool.and_eq_true] at hl
          obtain ⟨hz1, hvw, -⟩ := evS_spec hS hz
          have hcn := beq_n hc.1.1
          obtain ⟨g1, g2, g3, g4, g5⟩ := cput_spec (E := S.E) hc' hw hl.2 (SV.ce_wf hvw) hc.1.2
          obtain ⟨r1, r2⟩ := store_sl (Q := Q) (rest := rest) hS H ho hd hg hf hop hdst hy rfl ⟨hz1, hvw⟩ hn hcn hc.1.2 (Nat.le_of_ble_eq_true hc.2) hp g1 g2 g3 (by rw [clen hw]; omega)
          exact ⟨r1, rfl, rfl, rfl, r2⟩
        · cases h
      · cases h
    · rename_i id o1 i1 st o2 v n hy hz hn
      split at h
      · rename_i k j c t hp
        simp only [cond_eq_ite] at h
        split at h
        · rename_i hc
          simp only [Bool.and_eq_true] at hc
          obtain ⟨⟨c', m⟩, hc', h⟩ := Option.map_eq_some_iff.1 h
          simp only [Prod.mk.injEq] at h
          obtain ⟨rfl, rfl⟩ := h
          obtain ⟨p1, -, -⟩ := pcAt_spec (E := S.E) hp
          have hw : cwf c := mwf_at hS.m p1
          have hl : (Nat.blt j S.E.length && cok S.E.length c) = true := mlt_at hS.ml p1
          simp only [Bool.and_eq_true] at hl
          obtain ⟨hz1, hvw, -⟩ := evS_spec hS hz
          have hz1 : evT S.Td z = some ((kbN v).den S.E) := by rw [kbN_den]; exact hz1
          have hvw := kbN_wf hvw
          have hcn := beq_n hc.1
          obtain ⟨g1, g2, g3, g4, g5⟩ := cdynput_spec (E := S.E) hc' hw hl.2 (SV.ce_wf hvw) hc.2 hφ.1
          obtain ⟨r1, r2⟩ := store_bk (Q := Q) (rest := rest) hS H ho hd hg hf hop hdst hy rfl ⟨hz1, hvw⟩ hn hcn hc.2 hp g1 g2 g3 (by omega)
          exact ⟨r1, rfl, rfl, rfl, r2⟩
        · cases h
      · rename_i k j a0 b0 c e s hp
        simp only [cond_eq_ite] at h
        split at h
        · rename_i hc
          simp only [Bool.and_eq_true] at hc
          obtain ⟨⟨c', m⟩, hc', h⟩ := Option.map_eq_some_iff.1 h
          simp only [Prod.mk.injEq] at h
          obtain ⟨rfl, rfl⟩ := h
          obtain ⟨p1, -, -⟩ := pcAt_spec (E := S.E) hp
          have hw : cwf c := mwf_at hS.m p1
          have hl : (Nat.blt j S.E.length && cok S.E.length c) = true := mlt_at hS.ml p1
          simp only [Bool.and_eq_true] at hl
          obtain ⟨hz1, hvw, -⟩ := evS_spec hS hz
          have hz1 : evT S.Td z = some ((kbN v).den S.E) := by rw [kbN_den]; exact hz1
          have hvw := kbN_wf hvw
          have hcn := beq_n hc.1.1
          obtain ⟨g1, g2, g3, g4, g5⟩ := cdynput_spec (E := S.E) hc' hw hl.2 (SV.ce_wf hvw) hc.1.2 hφ.1
          obtain ⟨r1, r2⟩ := store_sl (Q := Q) (rest := rest) hS H ho hd hg hf hop hdst hy rfl ⟨hz1, hvw⟩ hn hcn hc.1.2 (Nat.le_of_ble_eq_true hc.2) hp g1 g2 g3 (by omega)
          exact ⟨r1, rfl, rfl, rfl, r2⟩
        · cases h
      · cases h
    · cases h
  · cases h

/-! ### Calls -/
theorem evTvs_spec (hS : S.WF) {a : Act} (ha : Tm N S.Td a) : ∀ {xs : List Operand} {ts : List TypeId} {l : List (TV FM)}, evTvs X S xs ts = some l → xs.map a.eval = l.map (TV.den S.E) ∧ tvswf l ∧ tvslt S.E.length l = true
  | [], ts, l, h => by
    have h : some ([] : List (TV FM)) = some l := by cases ts <;> exact h
    simp only [Option.some.injEq] at h; subst h
    exact ⟨rfl, trivial, rfl⟩
  | x :: r, t :: ts, l, h => by
    simp only [evTvs] at h
    split at h
    · rename_i v l' hv hl
      simp only [Option.some.injEq] at h; subst h
      obtain ⟨e1, e2, e3⟩ := evS_eval hS ha hv
      obtain ⟨g1, g2, g3⟩ := evTvs_spec hS ha hl
      exact ⟨by simp only [List.map_cons, e1, g1], ⟨e2, g2⟩, by simp only [tvslt, e3, g3, Bool.and_self]⟩
    · cases h
  | x :: r, [], l, h => by
    simp only [evTvs] at h
    split at h
    · rename_i v l' hv hl
      simp only [Option.some.injEq] at h; subst h
      obtain ⟨e1, e2, e3⟩ := evS_eval hS ha hv
      obtain ⟨g1, g2, g3⟩ := evTvs_spec hS ha hl
      exact ⟨by simp only [List.map_cons, e1, g1], ⟨e2, g2⟩, by simp only [tvslt, e3, g3, Bool.and_self]⟩
    · cases h
theorem tvswf_append : ∀ {a b : List (TV FM)}, tvswf (a ++ b) ↔ tvswf a ∧ tvswf b
  | [], b => by simp [tvswf]
  | x :: a, b => by simp [tvswf, tvswf_append (a := a), and_assoc]
theorem tvslt_append {n : Nat} : ∀ {a b : List (TV FM)}, tvslt n (a ++ b) = (tvslt n a && tvslt n b)
  | [], b => by simp [tvslt]
  | x :: a, b => by simp [tvslt, tvslt_append (a := a), Bool.and_assoc]
theorem tvs_of_sv : ∀ {l : List (SV FM)}, svwf l → tvswf (l.map TV.v)
  | [], _ => trivial
  | x :: l, h => ⟨h.1, tvs_of_sv h.2⟩
theorem tvs_of_lt {n : Nat} : ∀ {l : List (SV FM)}, svlt n l = true → tvslt n (l.map TV.v) = true
  | [], _ => rfl
  | x :: l, h => by
    simp only [svlt, Bool.and_eq_true] at h
    simp only [List.map_cons, tvslt, Bool.and_eq_true]
    exact ⟨h.1, tvs_of_lt h.2⟩

theorem callFunc_run {P : Program} {f : FuncId} (h : callOk P f = true) (args : Array Value) (w : World) : (callFunc f args).run P w = .ok (.enter f args) w := by
  unfold callOk at h
  split at h
  · rename_i fn hfn
    simp only [Bool.and_eq_true, Bool.not_eq_true'] at h
    have hb : fn.body.isNone = false := by
      cases hb : fn.body with
      | none => rw [hb] at h; simp at h
      | some _ => rfl
    unfold callFunc
    simp [program, Sem.run_bind, Sem.run, hfn, h.1, hb, Bind.bind, Sem.bind]
    rw [if_neg (by simpa using h.1), if_neg (by intro e; rw [e] at hb; simp at hb)]
  · cases h

theorem callT_run (hS : S.WF) {a : Act} (ha : Tm N S.Td a) {o : Oper} {f : FuncId} {l : List (TV FM)} (h : callT X S o = some (f, l)) (hok : callOk X.P f = true) (w : World) :
    (execOp a.eval o).run X.P w = .ok (.enter f (l.map (TV.den S.E)).toArray) w ∧ tvswf l ∧ tvslt S.E.length l = true := by
  unfold callT at h
  split at h
  · rename_i c ho
    split at h
    · rename_i fo hc
      split at h
      · rename_i g b d l' hf hl
        simp only [Option.some.injEq, Prod.mk.injEq] at h
        obtain ⟨rfl, rfl⟩ := h
        obtain ⟨e1, e2, e3⟩ := evS_eval hS ha hf
        obtain ⟨g1, g2, g3⟩ := evTvs_spec hS ha hl
        have e3 : (svlt S.E.length b && svlt S.E.length d) = true := e3
        simp only [Bool.and_eq_true] at e3
        refine ⟨?_, tvswf_append.2 ⟨tvs_of_sv e2.1, tvswf_append.2 ⟨g2, tvs_of_sv e2.2⟩⟩, by rw [tvslt_append, tvslt_append, tvs_of_lt e3.1, g3, tvs_of_lt e3.2]; rfl⟩
        have hargs : c.args.map a.eval = (l'.map (TV.den S.E)).toArray := by rw [← g1, ← Array.toList_map]
        have hm : ∀ q : List (SV FM), (q.map TV.v).map (TV.den S.E) = q.map (SV.den S.E) := fun q => by simp [TV.den]
        unfold execOp
        simp only [ho, resolve, hc, e1, TV.den, Deferred.ofValue, hargs]
        simp only [Sem.run_bind, Sem.run_pure, Result.andThen_ok, invoke]
        rw [callFunc_run hok]
        simp [hm, List.map_append]
      · cases h
    · cases h
  · cases h

theorem findC_ok (hS : S.WF) (H : HS M w0 w S) {f : FuncId} {l : List (TV FM)} (hw : tvswf l) (hl : tvslt S.E.length l = true) (h1 : tvs1 l = true) : ∀ {cons : List (Con X.P FM)} {φ : List Prop} {p : PS FM}, findC S f l cons = some (φ, p) → All φ →
    Calls X.P f (l.map (TV.den S.E)).toArray w (p.R no w)
  | [], _, _, h, _ => by simp [findC] at h
  | c :: r, φ, p, h, hφ => by
    simp only [findC, cond_eq_ite] at h
    split at h
    · rename_i hf
      have := beq_n hf; subst this
      split at h
      · rename_i x ψ hx
        simp only [Option.some.injEq, Prod.mk.injEq] at h
        obtain ⟨rfl, rfl⟩ := h
        obtain ⟨p1, p2⟩ := All_append.1 hφ
        obtain ⟨g1, g2, g3⟩ := sgMch_spec hS H hx p1 hw hl h1 [] []
        simp only [List.length_nil, List.nil_append, List.append_nil] at g1 g2
        rw [← g1]
        exact c.ok w x g3 g2 p2
      · exact findC_ok hS H hw hl h1 h hφ
    · exact findC_ok hS H hw hl h1 h hφ

theorem wc_callS (hS : S.WF) (H : HS M w0 w S) {i : Nat} {rest : OT} {o : Oper} {f : FuncId} {l : List (TV FM)} {cons : List (Con X.P FM)} {φ : List Prop} {p : PS FM} (ho : ops[i]? = some o) (hd : dstOk N o.dst = true) (hg : gst S.T ops o = some .want) (hf : Nat.ble 2 (fl i) = true)
    (hc : callT X S o = some (f, l)) (hok : callOk X.P f = true) (h1 : tvs1 l = true) (hp : findC S f l cons = some (φ, p)) (hφ : All φ)
    (h : ∀ y w', (p.ret y).wf → mwf (p.m y) → All (p.fact y) → Hp M w0 w' (mden (S.E ++ p.E y) (msh S.E.length (p.m y) ++ S.m)) → WC X.P N ops Q fl rest (putT S.Td o.dst (((p.ret y).sh S.E.length).den (S.E ++ p.E y))) w') :
    WC X.P N ops Q fl (.s i rest) S.Td w := by
  refine wc_heap (opT_of (T := S.T) ho hd hg) hf fun a ha => ?_
  obtain ⟨r1, r2, r3⟩ := callT_run hS ha hc hok w
  unfold operR
  rw [r1]
  refine (findC_ok hS H r2 r3 h1 hp hφ).mono fun e w' hR => ?_
  obtain ⟨y, rfl, q1, q2, q3, q4⟩ := hR
  refine ⟨fun _ => q3.keep.toD, ?_⟩
  have hm : mden (S.E ++ p.E y) (msh S.E.length (p.m y) ++ S.m) = mden (p.E y) (p.m y) ++ S.md := by
    rw [mden_append, msh_den, mden_ext hS.ml]; rfl
  have := h y w' q1 q2 q4 (by rw [hm]; exact H.hp.call q3)
  rw [TV.sh_den] at this
  exact this _ (ha.putT hd _)

/-! ### The walk -/
/-- What is asked behind a call that was gone through in place. -/
def clR (P : Program) (N : FN) (ops : Array Oper) (fl : FL) (rest : OT) (Td : Tab) (dst : Option Nat) (Q : Exit → Act → World → Prop) : Ending → World → Prop := fun e w =>
  (∃ v, e = .returned v ∧ WC P N ops Q fl rest (putT Td dst v) w) ∨ (∃ ch, e = .panicked ch ∧ At N Td w (Q (.panic ch)))
/-- What frames ask for. -/
def QF (P : Program) (N : Nat) (M : Nat → Prop) (w0 : World) (Q0 : Exit → Act → World → Prop) : List (Fr FM) → Exit → Act → World → Prop
  | [] => Q0
  | .sq c :: fs => SQ (roOf fs) P c (QF P N M w0 Q0 fs)
  | .blk i :: fs => Exit.inBlock i (QF P N M w0 Q0 fs)
  | .np :: fs => NoPanic (QF P N M w0 Q0 fs)
  | .hd L S ws m0 :: fs => Exit.then (fun a w => ∃ y : L.α, L.ck S y = true ∧ Tm (nOf N fs) (L.hd S ws y).Td a ∧ stwf (L.T S.E.length y) ∧ mwf (L.m S.E.length y) ∧ Hp M w0 w (L.hd S ws y).md ∧ All (L.inv y) ∧ ∀ n, m0 = some n → L.mu y < n) (QF P N M w0 Q0 fs)
  | .cl ops dr ov rest dst T E _ fn :: fs => bodyPostM (FR none) 0 P fn (clR P (nOf N fs) ops (flR (roOf fs) dr ops ov) rest (tden E T) dst (QF P N M w0 Q0 fs))
  | .df _ _ :: fs => QF P N M w0 Q0 fs
  | .rf T E _ fn _ _ bl bD _ _ _ _ _ :: fs => bodyPostM (FR none) 0 P fn fun e w => ∀ ac, Tm (nOf N fs) (tden E T) ac → rangePost (FR none) 0 P bl (QF P N M w0 Q0 fs) { ac with defers := mkD bD :: ac.defers } e w
  | .yd ops dr ov rest dst T E _ l _ _ :: fs => roundPost P l (clR P (nOf N fs) ops (flR (roOf fs) dr ops ov) rest (tden E T) dst (QF P N M w0 Q0 fs))
  | .as b _ l :: fs => Exit.then (fun a w => ∃ w₂, (Instr.beginRound l).run P w = .ok () w₂ ∧ b.wpIn (FR (some l)) 0 P (QF P N M w0 Q0 fs) a w₂) (fun _ _ _ => False)
def idsOk (n : Nat) : List Nat → Bool
  | [] => true
  | i :: r => Nat.blt i n && idsOk n r
def marks (E : List Ad) : List Nat → List Deferred
  | [] => []
  | i :: r => mkD (bno E i) :: marks E r
theorem marks_ext {E X : List Ad} : ∀ {ids : List Nat}, idsOk E.length ids = true → marks (E ++ X) ids = marks E ids ∧ idsOk (E ++ X).length ids = true
  | [], _ => ⟨rfl, rfl⟩
  | i :: r, h => by
    simp only [idsOk, Bool.and_eq_true] at h
    obtain ⟨g1, g2⟩ := marks_ext (X := X) h.2
    exact ⟨by simp only [marks, bno_ext h.1, g1], by simp only [idsOk, Bool.and_eq_true]; exact ⟨blt_mono h.1 (by simp), g2⟩⟩
theorem marks_append {E : List Ad} : ∀ {a b : List Nat}, marks E (a ++ b) = marks E a ++ marks E b
  | [], _ => rfl
  | i :: r, b => by simp only [List.cons_append, marks, marks_append (a := r)]
theorem idsOk_append {n : Nat} : ∀ {a b : List Nat}, idsOk n (a ++ b) = (idsOk n a && idsOk n b)
  | [], _ => by simp [idsOk]
  | i :: r, b => by simp only [List.cons_append, idsOk, idsOk_append (a := r), Bool.and_assoc]
def InvF (N : Nat) (M : Nat → Prop) (w0 : World) : List (Fr FM) → SS FM → Prop
  | [], _ => True
  | .hd L S0 ws m0 :: fs, S => (Ew S0 S ∧ S0.WF ∧ RG M w0 S0) ∧ InvF N M w0 fs S
  | .cl ops dr ov rest dst T E _ fn :: fs, S => ((∃ X, S.E = E ++ X) ∧ stwf T ∧ stlt E.length T = true ∧ fn.results.toList.length ≤ 4) ∧ InvF N M w0 fs { S with T := T }
  | .df ds ids :: fs, S => (ds = marks S.E ids ∧ idsOk S.E.length ids = true) ∧ InvF N M w0 fs S
  | .rf T E g fn id r bl bD ps a b n kb :: fs, S => ((∃ X, S.E = E ++ (.bk bD :: .bk bl :: X)) ∧ id = E.length + 1 ∧ stwf T ∧ stlt E.length T = true ∧ (r.params = ps ∧ r.assign = a ∧ r.body = b ∧ r.tmps.size = n ∧ ∀ t v, look (tden E T) t = some v → r.tmps[t]? = some v) ∧ n = (nOf N fs).n ∧ roOf fs = none ∧ fn.results.size = 0 ∧ psOk n ps.toList = true) ∧ InvF N M w0 fs { S with T := T }
  | .yd ops dr ov rest dst T E id l n kb :: fs, S => ((∃ X, S.E = E ++ X) ∧ stwf T ∧ stlt E.length T = true ∧ l = bno E id ∧ Nat.blt id E.length = true) ∧ InvF N M w0 fs { S with T := T }
  | .as b id l :: fs, S => (l = bno S.E id ∧ Nat.blt id S.E.length = true ∧ roOf fs = some l) ∧ InvF N M w0 fs S
  | .sq _ :: fs, S => InvF N M w0 fs S
  | .blk _ :: fs, S => InvF N M w0 fs S
  | .np :: fs, S => InvF N M w0 fs S
theorem InvF.ew {N : Nat} : ∀ {fs : List (Fr FM)} {S S' : SS FM}, InvF N M w0 fs S → Ew S S' → InvF N M w0 fs S'
  | [], _, _, _, _ => trivial
  | .cl ops dr ov rest dst T E _ fn :: fs, S, S', h, x => by
    obtain ⟨⟨⟨X, h1⟩, h2⟩, h3⟩ := h
    obtain ⟨x1, ⟨Y, x2⟩⟩ := x
    exact ⟨⟨⟨X ++ Y, by rw [x2, h1, List.append_assoc]⟩, h2⟩, InvF.ew (fs := fs) h3 ⟨⟨[], rfl⟩, ⟨Y, x2⟩⟩⟩
  | .rf T E g fn id r bl bD ps a b n kb :: fs, S, S', h, x => by
    obtain ⟨⟨⟨X, h1⟩, h2⟩, h3⟩ := h
    obtain ⟨x1, ⟨Y, x2⟩⟩ := x
    exact ⟨⟨⟨X ++ Y, by rw [x2, h1]; simp⟩, h2⟩, InvF.ew (fs := fs) h3 ⟨⟨[], rfl⟩, ⟨Y, x2⟩⟩⟩
  | .yd ops dr ov rest dst T E id l n kb :: fs, S, S', h, x => by
    obtain ⟨⟨⟨X, h1⟩, h2⟩, h3⟩ := h
    obtain ⟨x1, ⟨Y, x2⟩⟩ := x
    exact ⟨⟨⟨X ++ Y, by rw [x2, h1, List.append_assoc]⟩, h2⟩, InvF.ew (fs := fs) h3 ⟨⟨[], rfl⟩, ⟨Y, x2⟩⟩⟩
  | .df ds ids :: fs, S, S', h, x => by
    obtain ⟨⟨h1, h2⟩, h3⟩ := h
    obtain ⟨Y, x2⟩ := x.e
    obtain ⟨g1, g2⟩ := marks_ext (X := Y) h2
    exact ⟨⟨by rw [x2, g1]; exact h1, by rw [x2]; exact g2⟩, InvF.ew (fs := fs) h3 x⟩
  | .as b id l :: fs, S, S', h, x => by
    obtain ⟨⟨h1, h2, h4⟩, h3⟩ := h
    obtain ⟨Y, x2⟩ := x.e
    exact ⟨⟨by rw [x2, bno_ext h2]; exact h1, by rw [x2]; exact blt_mono h2 (by simp), h4⟩, InvF.ew (fs := fs) h3 x⟩
  | .hd L S0 ws m0 :: fs, _, _, h, x => ⟨⟨h.1.1.trans x, h.1.2⟩, InvF.ew h.2 x⟩
  | .sq _ :: fs, _, _, h, x => InvF.ew (fs := fs) h x
  | .blk _ :: fs, _, _, h, x => InvF.ew (fs := fs) h x
  | .np :: fs, _, _, h, x => InvF.ew (fs := fs) h x
theorem InvF.ext {N : Nat} {fs : List (Fr FM)} {S S' : SS FM} (h : InvF N M w0 fs S) (x : Ext S S') : InvF N M w0 fs S' := h.ew x.w
/-- A panic that nobody has taken up. -/
def pch (v : Value) : List PanicEntry := [{ v, recovered := false }]
def Goal (ro : Option Nat) (P : Program) (N : FN) (Q : Exit → Act → World → Prop) : Pt → SS FM → World → Prop
  | .code c, S, w => WN ro P N c Q S.Td w
  | .ops ops dr ov t, S, w => WC P N ops Q (flR ro dr ops ov) t S.Td w
  | .nrm, S, w => At N S.Td w (Q .normal)
  | .ext i, S, w => At N S.Td w (Q (.exit i))
  | .ret, S, w => At N S.Td w (Q .ret)
  | .pan v, S, w => At N S.Td w (Q (.panic (pch (v.den S.E))))

/-- A head's state is well formed. -/
theorem hd_wf {L : HA FM} {S : SS FM} (hS : S.WF) {ws : List Nat} {y : L.α} (hck : L.ck S y = true) (h1 : stwf (L.T S.E.length y)) (h2 : mwf (L.m S.E.length y)) : (L.hd S ws y).WF := by
  simp only [HA.ck, Bool.and_eq_true] at hck
  obtain ⟨⟨c1, c2⟩, c3⟩ := hck
  have hl : (S.E ++ L.E y).length = S.E.length + (L.E y).length := by simp
  refine ⟨c3, ?_, ?_, ?_, h2, ?_, vwf_ext hS.v⟩
  · show rwf (S.E ++ L.E y).length S.R
    rw [hl]; exact rwf_mono (by omega) hS.r
  · exact stwf_append.2 ⟨h1, stwf_append.2 ⟨stwf_unk, hS.t⟩⟩
  · show stlt (S.E ++ L.E y).length (L.T S.E.length y ++ (unk ws ++ S.T)) = true
    rw [hl]
    exact stlt_append.2 ⟨c1, stlt_append.2 ⟨stlt_unk, stlt_mono (by omega) hS.tl⟩⟩
  · show mlt (S.E ++ L.E y).length (L.m S.E.length y) = true
    rw [hl]; exact c2
theorem hd_ext {L : HA FM} {S : SS FM} {ws : List Nat} {y : L.α} : Ext S (L.hd S ws y) :=
  ⟨⟨L.T S.E.length y ++ unk ws, by simp [HA.hd, List.append_assoc]⟩, ⟨L.E y, rfl⟩, rfl⟩

theorem agree_ext {E X Y : List Ad} : Agree E.length (E ++ X) (E ++ Y) := fun i hi => by
  rw [List.getElem?_append_left hi, List.getElem?_append_left hi]

/-- A state that comes to a head. -/
theorem to_head {L : HA FM} {S S1 : SS FM} {ws : List Nat} {y : L.α} (x : Ew S S1) (hS : S.WF) (hS1 : S1.WF) (hck1 : L.ck1 S S1 ws y = true) (hu : All (L.eqs S S1 y)) {w : World} (H : Hp M w0 w S1.md) {a : Act} (ha : Tm N S1.Td a) :
    Tm N (L.hd S ws y).Td a ∧ stwf (L.T S.E.length y) ∧ mwf (L.m S.E.length y) ∧ Hp M w0 w (L.hd S ws y).md := by
  obtain ⟨⟨A, hT⟩, ⟨Xe, hE⟩⟩ := x
  simp only [HA.ck1] at hck1
  have c1 := hck1
  obtain ⟨u1, u2⟩ := All_append.1 hu
  obtain ⟨u2, u3⟩ := All_append.1 u2
  have hag : Agree S.E.length S1.E (S.E ++ L.E y) := by rw [hE]; exact agree_ext
  have hAl : S1.T.length - S.T.length = A.length := by rw [hT]; simp
  rw [hAl] at c1
  have h0 : tden S1.E S.T = tden (S.E ++ L.E y) S.T := by rw [hE, tden_ext hS.tl, tden_ext hS.tl]
  have hstw := uT_spec hag hS1.t u1
  have hmd : mden S1.E (lastN (L.m S.E.length y).length S1.m) = (mden S1.E S1.m).drop (S1.m.length - (L.m S.E.length y).length) := by
    unfold lastN
    generalize S1.m.length - (L.m S.E.length y).length = n
    generalize S1.m = m
    induction n generalizing m with
    | zero => simp
    | succ n ih => cases m with
      | nil => rfl
      | cons p m => simpa [mden] using ih m
  have hmw : mwf (lastN (L.m S.E.length y).length S1.m) := by
    have := hS1.m
    unfold lastN
    rw [← List.take_append_drop (S1.m.length - (L.m S.E.length y).length) S1.m] at this
    exact (mwf_append.1 this).2
  obtain ⟨m1, m2⟩ := uN_spec hag hS1.v hmw u3
  have hd : Hp M w0 w (mden (S.E ++ L.E y) ((L.m S.E.length y).drop ((L.m S.E.length y).length - S1.m.length))) := by
    refine Hp.imp (H.sub ?_) m1
    rw [hmd]
    exact List.drop_sublist _ _
  obtain ⟨g1, g2⟩ := uX_spec u2 hd
  rw [← mden_append, List.take_append_drop] at g1
  refine ⟨tm_head (L := L.T S.E.length y) (ws := ws) hag hT hS1.t u1 c1 h0 ha, hstw.1, ?_, g1⟩
  rw [← List.take_append_drop ((L.m S.E.length y).length - S1.m.length) (L.m S.E.length y)]
  exact mwf_append.2 ⟨g2, m2⟩

theorem putS_ext {S : SS FM} {d : Option Nat} {v : TV FM} {x : List (Ad × Vw)} : Ext S (putS S d v x) := ⟨setT_ext _ _ _, ⟨_, rfl⟩, rfl⟩
theorem withT_ext {S : SS FM} {T : ST FM} (h : ∃ A, T = A ++ S.T) : Ext S { S with T := T } := ⟨h, ⟨[], by simp⟩, rfl⟩
theorem kbS_ext {S : SS FM} {x : Operand} {b : Bool} : Ext S (kbS S x b) := by
  cases x with
  | tmp t => exact withT_ext ⟨[(t, some (.v (.one (.kb b))))], rfl⟩
  | _ => exact Ext.refl S
theorem kbS_wf {S : SS FM} (hS : S.WF) {x : Operand} {b : Bool} : (kbS S x b).WF := by
  cases x with
  | tmp t => exact hS.withT (kbT_wf hS.t t b) (kbT_lt hS.tl t b)
  | _ => exact hS
theorem kbS_md {S : SS FM} {x : Operand} {b : Bool} : (kbS S x b).md = S.md := by cases x <;> rfl
theorem WN.mono {ro : Option Nat} {P : Program} {c : Code} {Q : Exit → Act → World → Prop} {T T' : Tab} {w : World} (h : WN ro P N c Q T' w) (hT : ∀ t v, look T' t = some v → look T t = some v) : WN ro P N c Q T w :=
  fun a ha => h a ⟨ha.1, ha.2.1, fun t v ht => ha.2.2 t v (hT t v ht)⟩
theorem kbS_look {S : SS FM} (hS : S.WF) {x : Operand} {g b : Bool} {ty : Option TypeId} (h : evS X S ty x = some (.v (.one (.xv (.bool g))))) (hg : g = b) (s : Nat) (v : Value) (hs : look (kbS S x b).Td s = some v) : look S.Td s = some v := by
  cases x with
  | tmp t =>
    obtain ⟨h1, -, -⟩ := evS_spec hS h
    exact kbT_look (E := S.E) (T := S.T) (t := t) h1 hg s v hs
  | _ => exact hs
theorem wr_top {S : SS FM} (hS : S.WF) {d : Option Nat} {v : TV FM} {x : List (Ad × Vw)} (h1 : v.wf) (h2 : v.lt (S.E.length + x.length) = true) (h3 : vwf (S.E ++ x.map (·.1)) (x.map (·.2) ++ S.V)) : (putS S d v x).WF := by
  have hl : (S.E ++ x.map (·.1)).length = S.E.length + x.length := by simp
  refine ⟨mbk_ext hS.b, ?_, stwf_set hS.t h1, ?_, hS.m, ?_, h3⟩
  · show rwf (S.E ++ x.map (·.1)).length S.R
    rw [hl]; exact rwf_mono (by omega) hS.r
  · show stlt (S.E ++ x.map (·.1)).length (setT S.T d (some v)) = true
    rw [hl]; exact stlt_set (stlt_mono (by omega) hS.tl) h2
  · show mlt (S.E ++ x.map (·.1)).length S.m = true
    rw [hl]; exact mlt_mono (by omega) hS.ml
theorem putS_Td {S : SS FM} (hS : S.WF) {d : Option Nat} {v : TV FM} {x : List (Ad × Vw)} : (putS S d v x).Td = putT S.Td d (v.den (S.E ++ x.map (·.1))) := by
  show tden (S.E ++ x.map (·.1)) (setT S.T d (some v)) = _
  rw [tden_setT, tden_ext hS.tl]; rfl
theorem putS_md {S : SS FM} (hS : S.WF) {d : Option Nat} {v : TV FM} {x : List (Ad × Vw)} : (putS S d v x).md = S.md := mden_ext hS.ml

/-- A state with more pieces. -/
theorem add_wf {S : SS FM} (hS : S.WF) {d : Option Nat} {v : TV FM} {E : List Ad} {m : List (Pc FM)} (h1 : v.wf) (h2 : v.lt (S.E.length + E.length) = true) (h3 : mwf m) (h4 : mlt (S.E.length + E.length) m = true) (h5 : mbk (S.E ++ E) m = true) :
    (⟨setT S.T d (some v), S.E ++ E, m ++ S.m, S.V, S.R⟩ : SS FM).WF := by
  have hl : (S.E ++ E).length = S.E.length + E.length := by simp
  refine ⟨mbk_append.2 ⟨h5, mbk_ext hS.b⟩, ?_, stwf_set hS.t h1, ?_, mwf_append.2 ⟨h3, hS.m⟩, ?_, vwf_ext hS.v⟩
  · show rwf (S.E ++ E).length S.R
    rw [hl]; exact rwf_mono (by omega) hS.r
  · show stlt (S.E ++ E).length (setT S.T d (some v)) = true
    rw [hl]; exact stlt_set (stlt_mono (by omega) hS.tl) h2
  · show mlt (S.E ++ E).length (m ++ S.m) = true
    rw [hl]; exact mlt_append.2 ⟨h4, mlt_mono (by omega) hS.ml⟩
theorem add_ext {S : SS FM} {d : Option Nat} {v : TV FM} {E : List Ad} {m : List (Pc FM)} : Ext S (⟨setT S.T d (some v), S.E ++ E, m ++ S.m, S.V, S.R⟩ : SS FM) := ⟨setT_ext _ _ _, ⟨E, rfl⟩, rfl⟩

end
end Go.Px
