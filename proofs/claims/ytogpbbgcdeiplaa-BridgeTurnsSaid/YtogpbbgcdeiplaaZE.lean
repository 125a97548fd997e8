/-
  That the walk by computing shows what the code does: new blocks, stores, calls. No condition.
-/
import Derived.Test.YtogpbbgcdeiplaaZD
set_option linter.all false
namespace Go.Px
open Go.RowKit

section
variable {FM : Nat → Fm}

/-- A state that knows more, and forgets nothing. -/
structure Ext (S S' : SS FM) : Prop where
  t : ∃ A, S'.T = A ++ S.T
  e : ∃ X, S'.E = S.E ++ X
  r : S'.R = S.R
theorem Ext.refl (S : SS FM) : Ext S S := ⟨⟨[], rfl⟩, ⟨[], by simp⟩, rfl⟩
theorem Ext.trans {S S' S'' : SS FM} (h : Ext S S') (k : Ext S' S'') : Ext S S'' := by
  obtain ⟨⟨A, h1⟩, ⟨X, h2⟩, h3⟩ := h
  obtain ⟨⟨B, k1⟩, ⟨Y, k2⟩, k3⟩ := k
  exact ⟨⟨B ++ A, by rw [k1, h1, List.append_assoc]⟩, ⟨X ++ Y, by rw [k2, h2, List.append_assoc]⟩, k3.trans h3⟩
/-- A state that knows more, of what was handed in too. -/
structure Ew (S S' : SS FM) : Prop where
  t : ∃ A, S'.T = A ++ S.T
  e : ∃ X, S'.E = S.E ++ X
theorem Ext.w {S S' : SS FM} (h : Ext S S') : Ew S S' := ⟨h.t, h.e⟩
theorem Ew.trans {S S' S'' : SS FM} (h : Ew S S') (k : Ew S' S'') : Ew S S'' := by
  obtain ⟨⟨A, h1⟩, ⟨X, h2⟩⟩ := h
  obtain ⟨⟨B, k1⟩, ⟨Y, k2⟩⟩ := k
  exact ⟨⟨B ++ A, by rw [k1, h1, List.append_assoc]⟩, ⟨X ++ Y, by rw [k2, h2, List.append_assoc]⟩⟩
/-- What was handed in stays readable. -/
def RG (M : Nat → Prop) (w0 : World) (S : SS FM) : Prop := ∀ w, Hp M w0 w [] → ROk S.E w S.R
theorem RG.ext {M : Nat → Prop} {w0 : World} {S S' : SS FM} (h : RG M w0 S) (hw : rwf S.E.length S.R) (x : Ext S S') : RG M w0 S' := by
  obtain ⟨-, ⟨X, h2⟩, h3⟩ := x
  intro w H
  rw [h2, h3]
  exact ROk_ext hw (h w H)
theorem RG.hs {M : Nat → Prop} {w0 w : World} {S : SS FM} (h : RG M w0 S) (H : Hp M w0 w S.md) : HS M w0 w S := ⟨H, h w H.nil⟩

theorem setT_ext (T : ST FM) (d : Option Nat) (v : Option (TV FM)) : ∃ A, setT T d v = A ++ T := by
  cases d with
  | none => exact ⟨[], rfl⟩
  | some d => exact ⟨[(d, v)], rfl⟩

variable {X : Cx} {N : FN} {ops : Array Oper} {fl : FL} {S : SS FM} {Q : Exit → Act → World → Prop} {w : World} {M : Nat → Prop} {w0 : World}

/-! ### New blocks -/
theorem Hp.toSl' {M : Nat → Prop} {w0 w : World} {b : Nat} {cs : List Value} {e : TypeId} {m : Mem} (H : Hp M w0 w (.bk b (row cs e) :: m)) (n s : Nat) (hn : cs.length = n * s) (hm' : n ≤ maxLen) :
    Hp M w0 w (.sl (some ⟨b, 0, none⟩) n n cs e s :: m) := H.toSl 0 n s rfl hn hm'

theorem cz_spec {E : List Ad} : ∀ {c : Ce FM} {k : IntKind} {l : List Int}, cz c = some (k, l) → cden E c = iv k l
  | [], _, _, h => by simp [cz] at h
  | .f .. :: _, _, _, h => by simp [cz] at h
  | .b (.iz ..) :: _, _, _, h => by simp [cz] at h
  | .b (.cl x) :: c, k, l, h => by
    unfold cz at h
    split at h
    · rename_i e
      simp only [Option.some.injEq, Prod.mk.injEq] at h
      obtain ⟨rfl, rfl⟩ := h
      simp only [List.cons.injEq, Sg.b.injEq, Sg0.cl.injEq] at e
      obtain ⟨rfl, rfl⟩ := e
      rfl
    · rename_i k1 x1 c1 e
      simp only [List.cons.injEq, Sg.b.injEq, Sg0.cl.injEq] at e
      obtain ⟨rfl, rfl⟩ := e
      split at h
      · rename_i k' l' hr
        simp only [cond_eq_ite] at h
        split at h
        · rename_i hk
          have := of_decide_eq_true hk; subst this
          simp only [Option.some.injEq, Prod.mk.injEq] at h
          obtain ⟨rfl, rfl⟩ := h
          simp only [cden, Sg.den, Sg0.den, S0.den, cz_spec hr]
          rfl
        · cases h
      · cases h
    · cases h
theorem nice_spec {E : List Ad} {N : Nat} {e : Option TypeDesc} {c : Ce FM} (hw : cwf c) (hk : cok N c = true) : cden E (nice e c) = cden E c ∧ cwf (nice e c) ∧ cok N (nice e c) = true := by
  unfold nice
  split
  · split
    · exact ⟨rfl, ⟨rfl, trivial⟩, rfl⟩
    · split
      · rename_i hr
        exact ⟨by rw [cz_spec hr]; simp [cden, Sg.den, Sg0.den], ⟨rfl, trivial⟩, rfl⟩
      · exact ⟨rfl, hw, hk⟩
  · exact ⟨rfl, hw, hk⟩
theorem chunk_spec {E : List Ad} {F : Fm} : ∀ {f : Nat} {c : Ce FM} {l : List F.α} {n : Nat}, chunk F f c = some (l, n) → cwf c → cden E c = fden F l ∧ l.length = n ∧ ∀ a ∈ l, F.wf a
  | f, [], l, n, h, _ => by
    have h : some (([] : List F.α), 0) = some (l, n) := by
      cases f <;> exact h
    simp only [Option.some.injEq, Prod.mk.injEq] at h
    obtain ⟨rfl, rfl⟩ := h
    exact ⟨rfl, rfl, by simp⟩
  | 0, _ :: _, _, _, h, _ => by simp [chunk] at h
  | f + 1, s :: c, l, n, h, hw => by
    simp only [chunk] at h
    split at h
    · rename_i a ha
      obtain ⟨c0, h0, ha⟩ := Option.bind_eq_some_iff.1 ha
      obtain ⟨⟨l', n'⟩, hr, h⟩ := Option.map_eq_some_iff.1 h
      simp only [Prod.mk.injEq] at h
      obtain ⟨rfl, rfl⟩ := h
      have hs := F.hmk _ _ ha
      have e1 := dn0_spec h0
      have e2 : s :: c = (s :: c).take (F.sg F.d).length ++ (s :: c).drop (F.sg F.d).length := (List.take_append_drop _ _).symm
      have hw2 := hw
      rw [e2] at hw2
      obtain ⟨w1, w2⟩ := cwf_append.1 hw2
      obtain ⟨g1, g2, g3⟩ := chunk_spec (E := E) hr w2
      rw [e1] at w1
      refine ⟨?_, by simp [g2], ?_⟩
      · rw [e2, cden_append, e1, up0_den, ← hs, fm_den0, g1]; rfl
      · intro b hb
        rcases List.mem_cons.1 hb with rfl | hb
        · rw [F.hwf, hs]; exact up0_wf' w1
        · exact g3 b hb
    · cases h
theorem niceF_spec {E : List Ad} {N : Nat} {j : Nat} {c : Ce FM} (hw : cwf c) (hk : cok N c = true) : cden E (niceF j c) = cden E c ∧ cwf (niceF j c) ∧ cok N (niceF j c) = true := by
  unfold niceF
  split
  · rename_i hr
    obtain ⟨g1, g2, g3⟩ := chunk_spec (E := E) hr hw
    exact ⟨by rw [g1]; simp [cden, Sg.den], ⟨⟨g2, g3⟩, trivial⟩, rfl⟩
  · exact ⟨rfl, hw, hk⟩

theorem wc_newS {i : Nat} {rest : OT} {o : Oper} {c : Ce FM} {ty : TypeId} {v : Nat → Value} (H : Hp M w0 w S.md) (ho : ops[i]? = some o) (hd : dstOk N o.dst = true) (hg : gst S.T ops o = some .want) (hf : Nat.ble 2 (fl i) = true)
    (hrun : ∀ a, Tm N S.Td a → ∀ w : World, (execOp a.eval o).run X.P w = .ok (.value (v w.heap.size)) { w with heap := w.heap.push (row (cden S.E c) ty) })
    (h : ∀ b w', Hp M w0 w' (.bk b (row (cden S.E c) ty) :: S.md) → WC X.P N ops Q fl rest (putT S.Td o.dst (v b)) w') : WC X.P N ops Q fl (.s i rest) S.Td w := by
  refine wc_heap (opT_of (T := S.T) ho hd hg) hf fun a ha => ?_
  unfold operR
  rw [hrun a ha w]
  exact ⟨fun _ => ⟨by simp, fun k hk _ => by simp only [Array.getElem?_push]; rw [if_neg (by omega)]⟩, h _ _ (H.new _) _ (ha.putT hd _)⟩

theorem newObj_run {P : Program} (o : Obj) (w : World) : (newObj o).run P w = .ok w.heap.size { w with heap := w.heap.push o } := rfl

theorem newC_ok (hS : S.WF) {o : Oper} {c : Ce FM} {ty : TypeId} {q : Option (Nat × Nat)} (h : newC X S o = some (c, ty, q)) (hk : cok S.E.length c = true) {a : Act} (ha : Tm N S.Td a) (w : World) :
    cwf c ∧ (q = none → (execOp a.eval o).run X.P w = .ok (.value (.pointer (some ⟨w.heap.size, 0, none⟩))) { w with heap := w.heap.push (row (cden S.E c) ty) }) ∧
    (∀ n s, q = some (n, s) → (cden S.E c).length = n * s ∧ n ≤ maxLen ∧ (execOp a.eval o).run X.P w = .ok (.value (.slice (some ⟨w.heap.size, 0, none⟩) n n)) { w with heap := w.heap.push (row (cden S.E c) ty) }) := by
  unfold newC at h
  split at h
  · rename_i e ho
    obtain ⟨z, hz, h⟩ := Option.bind_eq_some_iff.1 h
    obtain ⟨s, hs, h⟩ := Option.bind_eq_some_iff.1 h
    obtain ⟨c', hc, h⟩ := Option.map_eq_some_iff.1 h
    simp only [Prod.mk.injEq] at h
    obtain ⟨rfl, rfl, rfl⟩ := h
    obtain ⟨g1, g2, g3⟩ := rgA_spec (E := S.E) (N := S.E.length) hc
    refine ⟨g2, fun _ => ?_, fun n s e => by cases e⟩
    unfold execOp
    simp only [ho, Instr.alloc, newVar, newRow, Sem.run_bind, pureRun_spec hz, Result.andThen_ok, newObj_run, Sem.run_pure, row, ← g1]
  · rename_i e y ho
    split at h
    · rename_i v hv
      simp only [cond_eq_ite] at h
      split at h
      · rename_i hc
        simp only [Option.some.injEq, Prod.mk.injEq] at h
        obtain ⟨rfl, rfl, rfl⟩ := h
        obtain ⟨hyv, hyw, hyl⟩ := evS_eval hS ha hv
        refine ⟨SV.ce_wf hyw, fun _ => ?_, fun n s e => by cases e⟩
        have hcl := SV.ce_cells (E := S.E) hc
        unfold execOp
        simp only [ho, hyv, TV.den, Instr.box, newVar, newRow, Sem.run_bind, Result.andThen_ok, newObj_run, Sem.run_pure, row, hcl]
      · cases h
    · cases h
  · rename_i t len ps ho
    split at h
    · rename_i e hu
      split at h
      · rename_i s l z sh hs hl hz hsh
        simp only [cond_eq_ite] at h
        split at h
        · rename_i hc
          simp only [Bool.and_eq_true] at hc
          have h1 := Nat.le_of_ble_eq_true hc.1.1
          have h2 := Nat.le_of_ble_eq_true hc.1.2
          have h3 := Nat.le_of_ble_eq_true hc.2
          obtain ⟨c0, hc0, h⟩ := Option.bind_eq_some_iff.1 h
          obtain ⟨c1, hc1, h⟩ := Option.bind_eq_some_iff.1 h
          split at h
          · rename_i hn
            have hn := beq_n hn
            simp only [Option.some.injEq, Prod.mk.injEq] at h
            obtain ⟨rfl, rfl, rfl⟩ := h
            obtain ⟨q1, q2, q3⟩ := rgA_spec (E := S.E) (N := S.E.length) hc0
            obtain ⟨e1, e2⟩ := evParts_spec hS ha hl
            obtain ⟨g1, g2, g3, g4⟩ := bfill_spec (E := S.E) hc1 q2 q3 e2
            have hcc : cden S.E (niceQ X e c1) = cden S.E c1 ∧ cwf (niceQ X e c1) := by
              unfold niceQ
              split
              · obtain ⟨a1, a2, -⟩ := niceF_spec (E := S.E) (N := S.E.length) g2 g3; exact ⟨a1, a2⟩
              · obtain ⟨a1, a2, -⟩ := nice_spec (E := S.E) (N := S.E.length) g2 g3; exact ⟨a1, a2⟩
            refine ⟨hcc.2, (fun e => by cases e), fun n s' en => ?_⟩
            simp only [Option.some.injEq, Prod.mk.injEq] at en
            obtain ⟨rfl, rfl⟩ := en
            refine ⟨by rw [hcc.1, clen g2, hn], by unfold maxLen; omega, ?_⟩
            rw [hcc.1]
            have hps : (ps.map fun (i, y) => (i, a.eval y)).toList = sps S.E l := by rw [Array.toList_map, e1]
            have hfill : Instr.fill (fun i => some (i * s, s)) ((Array.range (len * s)).map ((if len * s = 0 then #[] else z.cells)[· % (if len * s = 0 then #[] else z.cells).size]!)) (sps S.E l) = some (cden S.E c1).toArray := by
              rw [← g1]
              congr 1
              rw [← q1]
              unfold zrow
              by_cases h0 : len * s = 0
              · rw [h0]; simp
              · simp only [if_neg h0]
            unfold execOp
            simp only [ho, Instr.buildSlice, Sem.run_bind, run_underlying' hu, Result.andThen_ok, pureRun_spec hs]
            rw [if_neg (by omega)]
            by_cases h0 : len * s = 0
            · simp only [if_pos h0] at hfill ⊢
              simp only [Sem.run_bind, Sem.run_pure, Result.andThen_ok, hps, hfill, newRow, newObj_run, row]
            · simp only [if_neg h0] at hfill ⊢
              simp only [Sem.run_bind, Sem.run_pure, Result.andThen_ok, pureRun_spec hz, hps, hfill, newRow, newObj_run, row]
          · cases h
        · cases h
      · cases h
    · cases h
  · cases h

/-! ### Records that hold slices -/
theorem tk_split {L a b : List Value} {n m : Nat} (h : L.take (n + m) = a ++ b) (ha : a.length = n) (hb : b.length = m) : L.take n = a ∧ (L.drop n).take m = b := by
  have h1 : (L.take (n + m)).take n = (a ++ b).take n := by rw [h]
  have h2 : (L.take (n + m)).drop n = (a ++ b).drop n := by rw [h]
  rw [List.take_take, Nat.min_eq_left (by omega), ← ha, List.take_left'] at h1
  · rw [List.drop_take, ← ha, List.drop_left'] at h2
    · refine ⟨by rw [← ha]; exact h1, ?_⟩
      rw [show a.length + m - a.length = m by omega] at h2
      rw [← ha]; exact h2
    · rfl
  · rfl
theorem dcells_spec {F : Fm} {a : F.α} {E X : List Ad} : ∀ {r : List Sg0} {off : Nat}, ((c0den [] (F.sg a)).drop off).take (c0n r) = c0den [] r → off + c0n r ≤ F.sz → c0wf r → c0ok 0 r = true → ∀ {w : World}, fmRd F w a →
    cden (E ++ (dcells (FM := FM) (F.inn a) off E.length r).2.1 ++ X) (dcells (FM := FM) (F.inn a) off E.length r).1 = c0den [] r ∧ cwf (dcells (FM := FM) (F.inn a) off E.length r).1 ∧
      cok (E.length + (dcells (FM := FM) (F.inn a) off E.length r).2.1.length) (dcells (FM := FM) (F.inn a) off E.length r).1 = true ∧
      ROk (E ++ (dcells (FM := FM) (F.inn a) off E.length r).2.1 ++ X) w (dcells (FM := FM) (F.inn a) off E.length r).2.2 ∧ rwf (E.length + (dcells (FM := FM) (F.inn a) off E.length r).2.1.length) (dcells (FM := FM) (F.inn a) off E.length r).2.2
  | [], off, _, _, _, _, w, _ => ⟨rfl, trivial, rfl, trivial, trivial⟩
  | s :: r, off, h, hn, hw, hk, w, hr => by
    simp only [c0ok, Bool.and_eq_true] at hk
    have hl := Sg0.len (E := []) hw.1
    have hlr := c0len (E := []) hw.2
    simp only [c0n] at h hn
    obtain ⟨hh, ht⟩ := tk_split h hl hlr
    rw [List.drop_drop] at ht
    have plain : ∀ (e : dcells (FM := FM) (F.inn a) off E.length (s :: r) = (.b s :: (dcells (FM := FM) (F.inn a) (off + s.n) E.length r).1, (dcells (FM := FM) (F.inn a) (off + s.n) E.length r).2)),
        cden (E ++ (dcells (FM := FM) (F.inn a) off E.length (s :: r)).2.1 ++ X) (dcells (FM := FM) (F.inn a) off E.length (s :: r)).1 = c0den [] (s :: r) ∧ cwf (dcells (FM := FM) (F.inn a) off E.length (s :: r)).1 ∧
          cok (E.length + (dcells (FM := FM) (F.inn a) off E.length (s :: r)).2.1.length) (dcells (FM := FM) (F.inn a) off E.length (s :: r)).1 = true ∧
          ROk (E ++ (dcells (FM := FM) (F.inn a) off E.length (s :: r)).2.1 ++ X) w (dcells (FM := FM) (F.inn a) off E.length (s :: r)).2.2 ∧ rwf (E.length + (dcells (FM := FM) (F.inn a) off E.length (s :: r)).2.1.length) (dcells (FM := FM) (F.inn a) off E.length (s :: r)).2.2 := by
      intro e
      obtain ⟨g1, g2, g3, g4, g5⟩ := dcells_spec (E := E) (X := X) ht (by omega) hw.2 hk.2 hr
      rw [e]
      have e0 := Sg0.ext (E := []) (X := E ++ (dcells (FM := FM) (F.inn a) (off + s.n) E.length r).2.1 ++ X) hk.1
      rw [List.nil_append] at e0
      refine ⟨by simp only [cden, Sg.den, e0, g1, c0den], ⟨hw.1, g2⟩, ?_, g4, g5⟩
      simp only [cok, g3, Bool.and_true]
      exact Sg0.ok_mono hk.1 (Nat.zero_le _)
    by_cases hs : ∃ A n cap, s = .cl (.xv (.slice A n cap))
    · obtain ⟨A, n, cap, rfl⟩ := hs
      cases hi : F.inn a off with
      | none => exact plain (by simp only [dcells, hi, Sg0.n])
      | some q =>
        obtain ⟨A', k, l⟩ := q
        obtain ⟨cap', hc⟩ := F.hin a off A' k l hi
        have hv : Value.slice A n cap = .slice A' l.length cap' := by
          have h0 : ((c0den [] (F.sg a)).drop off).take 1 = [.slice A n cap] := hh
          have h1 := take_one hc
          rw [h1] at h0
          simpa using h0.symm
        simp only [Value.slice.injEq] at hv
        obtain ⟨rfl, rfl, rfl⟩ := hv
        obtain ⟨g1, g2, g3, g4, g5⟩ := dcells_spec (E := E ++ [.ad A]) (X := X) (a := a) ht (by omega) hw.2 hk.2 hr
        have hlen : (E ++ [Ad.ad A]).length = E.length + 1 := by simp
        rw [hlen] at g1 g2 g3 g4 g5
        have e : dcells (FM := FM) (F.inn a) off E.length (.cl (.xv (.slice A l.length cap)) :: r) = (.b (.cl (.sc E.length 0 l.length cap false)) :: (dcells (FM := FM) (F.inn a) (off + 1) (E.length + 1) r).1, .ad A :: (dcells (FM := FM) (F.inn a) (off + 1) (E.length + 1) r).2.1, (E.length, [.b (.iz k l l.length)]) :: (dcells (FM := FM) (F.inn a) (off + 1) (E.length + 1) r).2.2) := by
          simp only [dcells, hi]
        rw [e]
        have eE : E ++ (Ad.ad A :: (dcells (FM := FM) (F.inn a) (off + 1) (E.length + 1) r).2.1) ++ X = E ++ [Ad.ad A] ++ (dcells (FM := FM) (F.inn a) (off + 1) (E.length + 1) r).2.1 ++ X := by simp
        have hb : ∀ Y : List Ad, bas (E ++ [Ad.ad A] ++ Y) E.length 0 = A := fun Y => by unfold bas; simp
        refine ⟨?_, ⟨trivial, g2⟩, ?_, ?_, ?_⟩
        · simp only [eE, cden, Sg.den, Sg0.den, S0.den, List.append_assoc] at g1 ⊢
          rw [← List.append_assoc E, hb]
          simp only [List.append_assoc] at g1 ⊢
          exact congrArg (Value.slice A l.length cap :: ·) g1
        · simp only [cok, Sg.ok, Sg0.ok, S0.ok, S0.lt, List.length_cons, Bool.and_eq_true]
          refine ⟨⟨trivial, Nat.blt_eq.mpr (by omega)⟩, ?_⟩
          rw [show E.length + ((dcells (FM := FM) (F.inn a) (off + 1) (E.length + 1) r).2.1.length + 1) = E.length + 1 + (dcells (FM := FM) (F.inn a) (off + 1) (E.length + 1) r).2.1.length by omega]
          exact g3
        · rw [eE]
          refine ⟨⟨?_, trivial⟩, g4⟩
          rw [List.append_assoc (E ++ [Ad.ad A]), hb]
          simpa [cden, Sg.den, Sg0.den] using hr off A k l hi
        · refine ⟨⟨Nat.blt_eq.mpr (by simp), ⟨rfl, trivial⟩, rfl⟩, ?_⟩
          simp only [List.length_cons]
          rw [show E.length + ((dcells (FM := FM) (F.inn a) (off + 1) (E.length + 1) r).2.1.length + 1) = E.length + 1 + (dcells (FM := FM) (F.inn a) (off + 1) (E.length + 1) r).2.1.length by omega]
          exact g5
    · refine plain ?_
      cases s with
      | iz k l n => rfl
      | cl x =>
        cases x with
        | xv v =>
          cases v <;> first | rfl | exact absurd ⟨_, _, _, rfl⟩ hs
        | _ => rfl

/-- A record is read, the slices in it too. -/
theorem dld_ok (hS : S.WF) (hR : ROk S.E w S.R) {i : Nat} {rest : OT} {o : Oper} {φ : List Prop} {v : SV FM} {x : List Ad} {y : List (Nat × Ce FM)} (ho : ops[i]? = some o) (hd : dstOk N o.dst = true) (hg : gst S.T ops o = some .want) (hf : fl i = 1) (hfd : fl.d = no)
    (h : dldQ X S o = some (φ, v, x, y)) (hφ : All φ) :
    (v.wf ∧ v.lt (S.E.length + x.length) = true ∧ rwf (S.E.length + x.length) y ∧ ∀ w', ROk S.E w' S.R → ROk (S.E ++ x) w' y) ∧ (WC X.P N ops Q fl rest (putT S.Td o.dst (v.den (S.E ++ x))) w → WC X.P N ops Q fl (.s i rest) S.Td w) := by
  unfold dldQ at h
  split at h
  · rename_i ty a hop
    split at h
    · rename_i id o1 i1 st o2 hy
      obtain ⟨⟨c, φs⟩, hc, h1⟩ := Option.bind_eq_some_iff.1 h
      clear h
      obtain ⟨⟨p, x1, q⟩, hq, h2⟩ := Option.bind_eq_some_iff.1 h1
      clear h1
      have h := h2
      clear h2
      simp only at h
      split at h
      · rename_i j l m
        simp only [cond_eq_ite] at h
        split at h
        · rename_i hk
          simp only [Bool.and_eq_true] at hk
          have hst := beq_n hk.2
          obtain ⟨rfl, hoo⟩ := catq_spec hq
          generalize he : l.getD i1 (FM j).d = e at h
          -- what is read
          have main : ∀ {n : Nat} {r : List Sg0}, c0sub ((FM j).sg e) o2 n = some r → All ((i1 < m) :: φs) →
              (∀ (E' : List Ad) (w' : World), ROk S.E w' S.R → cden (S.E ++ (dcells (FM := FM) ((FM j).inn e) o2 S.E.length r).2.1 ++ E') (dcells (FM := FM) ((FM j).inn e) o2 S.E.length r).1 = c0den [] r ∧ ROk (S.E ++ (dcells (FM := FM) ((FM j).inn e) o2 S.E.length r).2.1 ++ E') w' (dcells (FM := FM) ((FM j).inn e) o2 S.E.length r).2.2) ∧
              cwf (dcells (FM := FM) ((FM j).inn e) o2 S.E.length r).1 ∧ cok (S.E.length + (dcells (FM := FM) ((FM j).inn e) o2 S.E.length r).2.1.length) (dcells (FM := FM) ((FM j).inn e) o2 S.E.length r).1 = true ∧ rwf (S.E.length + (dcells (FM := FM) ((FM j).inn e) o2 S.E.length r).2.1.length) (dcells (FM := FM) ((FM j).inn e) o2 S.E.length r).2.2 ∧
              ((cden S.E (p ++ .f j l m :: q)).drop (o1 + i1 * st + o2)).take n = c0den [] r ∧ o1 + i1 * st + o2 + n ≤ (cden S.E (p ++ .f j l m :: q)).length ∧ Rd w (bas S.E id 0) (cden S.E (p ++ .f j l m :: q)) := by
            intro n r hr hφ
            obtain ⟨hi, hφs⟩ := hφ
            obtain ⟨⟨r1, r4⟩, r2, r3⟩ := rdR_spec hS.v hS.r hR hc hφs
            obtain ⟨wa, wx⟩ := cwf_append.1 r2
            have hmem : e ∈ l := by
              have hl : l.length = m := wx.1.1
              rw [← he, show l.getD i1 (FM j).d = l[i1]'(by omega) from by simp only [List.getD, List.getElem?_eq_getElem (show i1 < l.length by omega), Option.getD_some]]
              exact List.getElem_mem _
            have hwe : (FM j).wf e := wx.1.2 e hmem
            have hew := ((FM j).hwf e).1 hwe
            obtain ⟨g1, g2, g3, g4, g5⟩ := c0sub_spec (E := []) hr hew ((FM j).hok e)
            rw [(FM j).hsz] at g5
            have hdyn : cdyn (p ++ .f j l m :: q) o1 i1 st o2 n = some (r, m) := by
              unfold cdyn
              rw [hq]
              simp only [Option.bind_some, Sg.elem, hst, Nat.beq_refl, cond_true, he, hr, Option.map_some]
            obtain ⟨d1, d2, d3, d4, d5⟩ := cdyn_spec (E := S.E) (N := 0) hdyn r2 hi
            have dc := fun {E' : List Ad} {w' : World} (hh : fmRd (FM j) w' e) => dcells_spec (FM := FM) (F := FM j) (a := e) (E := S.E) (X := E') (r := r) (off := o2) (by rw [g4]; exact g1) (by rw [g4]; exact g5) g2 g3 (w := w') hh
            have dcd : ∀ w', ROk S.E w' S.R → fmRd (FM j) w' e := by
              intro w' hR'
              obtain ⟨⟨-, k4⟩, -, -⟩ := rdR_spec hS.v hS.r hR' hc hφs
              have key : ∀ (p : Ce FM), dRd w' (p ++ .f j l m :: q) → ∀ a ∈ l, fmRd (FM j) w' a := by
                intro p
                induction p with
                | nil => intro h; exact h.1
                | cons s p ih => intro h; cases s with
                  | b s => exact ih h
                  | f j' l' m' => exact ih h.2
              exact key p k4 e hmem
            obtain ⟨z1, z2, z3, z4, z5⟩ := dc (E' := []) (dcd w hR)
            refine ⟨fun E' w' hR' => ?_, z2, z3, z5, ?_, d5, r1⟩
            · obtain ⟨y1, -, -, y4, -⟩ := dc (E' := E') (dcd w' hR')
              exact ⟨y1, y4⟩
            · rw [d1]
              have := c0ext (E := []) (X := S.E) d3
              simpa using this
          have hA : ∃ ev, evT S.Td a = some ev ∧ ev = .pointer (some (adr (bas S.E id 0) (o1 + i1 * st + o2))) := by
            obtain ⟨e1, -, -⟩ := evS_spec hS hy
            exact ⟨_, e1, by simp only [TV.den, SV.den, S0.den, plc_adr]⟩
          obtain ⟨ev, hev, rfl⟩ := hA
          have hop' : ((opT N ops S.Td i).bind (ldT S.Td), fl i) = (some (o.dst, ty, adr (bas S.E id 0) (o1 + i1 * st + o2)), 1) := by
            rw [show opT N ops S.Td i = some o from opT_of (T := S.T) ho hd hg]
            simp only [Option.bind_some, ldT, hop, hev, hf]
          split at h
          · rename_i hag
            obtain ⟨n, hn, h1⟩ := Option.bind_eq_some_iff.1 h
            obtain ⟨r, hr, h2⟩ := Option.map_eq_some_iff.1 h1
            clear h h1
            have h := h2
            clear h2
            simp only [Prod.mk.injEq] at h
            obtain ⟨rfl, rfl, hxy⟩ := h
            obtain ⟨m1, m2, m3, m4, m5, m6, m7⟩ := main hr hφ
            have hx : (dcells (FM := FM) ((FM j).inn e) o2 S.E.length r).2.1 = x := by rw [hxy]
            have hyy : (dcells (FM := FM) ((FM j).inn e) o2 S.E.length r).2.2 = y := by rw [hxy]
            rw [hx] at m1 m3 m4
            rw [hyy] at m1 m4
            refine ⟨⟨m2, m3, m4, fun w' hR' => ?_⟩, fun hh => wc_ldA m7 o.dst ty _ _ hop' (.inr ⟨n, hag, hn, m6, ?_⟩) hh hfd⟩
            · have := (m1 [] w' hR').2
              rw [List.append_nil] at this; exact this
            · have := (m1 [] w hR).1
              rw [List.append_nil] at this
              simp only [SV.den, this, m5]
          · rename_i hag
            obtain ⟨r, hr, h⟩ := Option.bind_eq_some_iff.1 h
            split at h
            · rename_i x0 q0 hdc
              simp only [Option.some.injEq, Prod.mk.injEq] at h
              obtain ⟨rfl, rfl, hxy⟩ := h
              obtain ⟨m1, m2, m3, m4, m5, m6, m7⟩ := main hr hφ
              rw [hdc] at m1 m2 m3 m4
              subst hxy
              refine ⟨⟨trivial, ?_, m4, fun w' hR' => ?_⟩, fun hh => wc_ldA m7 o.dst ty _ _ hop' (.inl ⟨hag, ?_⟩) hh hfd⟩
              · simp only [cok, Sg.ok, Sg0.ok, Bool.and_eq_true] at m3
                exact m3.1.2
              · have := (m1 [] w' hR').2
                rw [List.append_nil] at this; exact this
              · have := (m1 [] w hR).1
                rw [List.append_nil] at this
                rw [← m5] at this
                simp only [cden, Sg.den, Sg0.den, List.append_nil] at this
                have h0 := congrArg (·[0]?) this
                simp only [List.getElem?_cons_zero, List.getElem?_take, List.getElem?_drop] at h0
                simpa [SV.den] using h0.symm
            · cases h
          · cases h
        · cases h
      · cases h
    · cases h
  · cases h
/-! ### Records that hold slices, out of a row of the call's own -/
theorem altL_spec {α : Type} {K : α → Prop} : ∀ {l : List (Prop × α)}, altL l K → ∃ p s, (p, s) ∈ l ∧ p ∧ K s
  | [], h => h.elim
  | [(p, s)], h => ⟨p, s, by simp, h.1, h.2⟩
  | (p, s) :: x :: r, h => by
    rcases h with h | h
    · exact ⟨p, s, by simp, h.1, h.2⟩
    · obtain ⟨p', s', h1, h2⟩ := altL_spec h
      exact ⟨p', s', List.mem_cons_of_mem _ h1, h2⟩
theorem rs_of : ∀ {r : List (Nat × Ce FM)} {n : Nat}, rwf n r → rswf r ∧ rslt n r = true
  | [], _, _ => ⟨trivial, rfl⟩
  | (id, c) :: r, n, h => by
    obtain ⟨⟨h1, h2, h3⟩, h4⟩ := h
    obtain ⟨g1, g2⟩ := rs_of h4
    exact ⟨⟨h2, g1⟩, by simp only [rslt, h1, h3, g2, Bool.and_self]⟩
theorem dalts_mem {d : Option Nat} {j : Nat} {e : (FM j).α} {v : SV FM} {x : List Ad} {y : List (Nat × Ce FM)} {p : Prop} {S' : SS FM} (h : (p, S') ∈ dalts S d j e v x y) :
    (∃ k rs ds, fzC S.m = some (k, rs, ds) ∧ p = memL e (dsJ j ds) ∧ S' = ⟨setT S.T d (some (.v v)), S.E ++ x, (nrmF S.m).set k (.fz (y ++ rs) ds), S.V, S.R⟩) ∨ (p = memL e (dsJ j (dsR S.R)) ∧ S' = ⟨setT S.T d (some (.v v)), S.E ++ x, S.m, S.V, y ++ S.R⟩) := by
  unfold dalts at h
  rcases List.mem_append.1 h with h | h
  · left
    split at h
    · rename_i k rs ds hc
      split at h
      · cases h
      · simp only [List.mem_singleton, Prod.mk.injEq] at h
        exact ⟨k, rs, ds, hc, h.1, h.2⟩
    · cases h
  · right
    split at h
    · cases h
    · simp only [List.mem_singleton, Prod.mk.injEq] at h
      exact h
theorem dalts_fm (H : Hp M w0 w S.md) (hR : ROk S.E w S.R) {d : Option Nat} {j : Nat} {e : (FM j).α} {v : SV FM} {x : List Ad} {y : List (Nat × Ce FM)} {p : Prop} {S' : SS FM} (h : (p, S') ∈ dalts S d j e v x y) (hp : p) : fmRd (FM j) w e := by
  rcases dalts_mem h with ⟨k, rs, ds, hc, rfl, -⟩ | ⟨rfl, -⟩
  · have H1 : Hp M w0 w (mden S.E (nrmF S.m)) := nrmF_ok.1 H
    exact memL_spec hp (H1.pr k (mden_at (E := S.E) (fzC_spec hc))).2
  · exact memL_spec hp (dsR_ok hR)
theorem dalts_ok (hS : S.WF) (H : Hp M w0 w S.md) {d : Option Nat} {j : Nat} {e : (FM j).α} {v : SV FM} {x : List Ad} {y : List (Nat × Ce FM)} {p : Prop} {S' : SS FM} (h : (p, S') ∈ dalts S d j e v x y) (hp : p)
    (hv : v.wf) (hvl : v.lt (S.E.length + x.length) = true) (hy : rwf (S.E.length + x.length) y) (hY : ∀ w', fmRd (FM j) w' e → ROk (S.E ++ x) w' y) :
    S'.WF ∧ (∀ w', ROk S.E w' S.R → ROk S'.E w' S'.R) ∧ Hp M w0 w S'.md ∧ Ew S S' ∧ S'.Td = putT S.Td d (v.den (S.E ++ x)) := by
  have hl : (S.E ++ x).length = S.E.length + x.length := by simp
  have hT : stwf (setT S.T d (some (.v v))) := stwf_set hS.t hv
  have hTl : stlt (S.E ++ x).length (setT S.T d (some (.v v))) = true := by rw [hl]; exact stlt_set (stlt_mono (by omega) hS.tl) hvl
  have hTd : tden (S.E ++ x) (setT S.T d (some (.v v))) = putT S.Td d (v.den (S.E ++ x)) := by
    rw [tden_setT, tden_ext hS.tl]; rfl
  obtain ⟨y1, y2⟩ := rs_of hy
  rcases dalts_mem h with ⟨k, rs, ds, hc, rfl, rfl⟩ | ⟨rfl, rfl⟩
  · have hk := fzC_spec hc
    have H1 : Hp M w0 w (mden S.E (nrmF S.m)) := nrmF_ok.1 H
    obtain ⟨kp, kw⟩ := (nrmF_ok (w := w) (w0 := w0) (M := M) (E := S.E) (m := S.m)).2
    have hmw := kw hS.m
    have hml := kp.1 hS.ml
    have r1 : rswf rs := mwf_at hmw hk
    have r2 : rslt S.E.length rs = true := mlt_at hml hk
    refine ⟨⟨mbk_ext (mbk_set (kp.2 hS.b) rfl), ?_, hT, hTl, mwf_set hmw (rswf_app.2 ⟨y1, r1⟩), mlt_set ?_ ?_, vwf_ext hS.v⟩, fun w' h' => ROk_ext hS.r h', ?_, ⟨setT_ext _ _ _, ⟨x, rfl⟩⟩, hTd⟩
    · show rwf (S.E ++ x).length S.R
      rw [hl]; exact rwf_mono (by omega) hS.r
    · show mlt (S.E ++ x).length (nrmF S.m) = true
      rw [hl]; exact mlt_mono (by omega) hml
    · show rslt (S.E ++ x).length (y ++ rs) = true
      rw [rslt_app, hl, y2, rslt_mono (by omega) r2]; rfl
    · show Hp M w0 w (mden (S.E ++ x) ((nrmF S.m).set k (.fz (y ++ rs) ds)))
      rw [mden_set, mden_ext hml]
      exact H1.prTo k (φ := fun w => ROk S.E w rs ∧ dsOk w ds) (mden_at (E := S.E) hk) fun w' hw' => ⟨ROk_app.2 ⟨hY w' (memL_spec hp hw'.2), ROk_ext (rwf_of r1 r2) hw'.1⟩, hw'.2⟩
  · refine ⟨⟨mbk_ext hS.b, ?_, hT, hTl, hS.m, ?_, vwf_ext hS.v⟩, fun w' h' => ROk_append.2 ⟨hY w' (memL_spec hp (dsR_ok h')), ROk_ext hS.r h'⟩, ?_, ⟨setT_ext _ _ _, ⟨x, rfl⟩⟩, hTd⟩
    · show rwf (S.E ++ x).length (y ++ S.R)
      rw [hl]; exact rwf_append.2 ⟨hy, rwf_mono (by omega) hS.r⟩
    · show mlt (S.E ++ x).length S.m = true
      rw [hl]; exact mlt_mono (by omega) hS.ml
    · show Hp M w0 w (mden (S.E ++ x) S.m)
      rw [mden_ext hS.ml]; exact H
theorem dldM_ok (hS : S.WF) (H : Hp M w0 w S.md) (hR : ROk S.E w S.R) {i : Nat} {rest : OT} {o : Oper} {φ : List Prop} {al : List (Prop × SS FM)} (ho : ops[i]? = some o) (hd : dstOk N o.dst = true) (hg : gst S.T ops o = some .want) (hf : fl i = 1) (hfd : fl.d = no)
    (h : dldM X S o = some (φ, al)) (hφ : All φ) {K : SS FM → Prop} (hK : altL al K) :
    ∃ S', K S' ∧ S'.WF ∧ (∀ w', ROk S.E w' S.R → ROk S'.E w' S'.R) ∧ Hp M w0 w S'.md ∧ Ew S S' ∧ (WC X.P N ops Q fl rest S'.Td w → WC X.P N ops Q fl (.s i rest) S.Td w) := by
  obtain ⟨p, S', hm, hp, hK⟩ := altL_spec hK
  refine ⟨S', hK, ?_⟩
  clear hK
  unfold dldM at h
  split at h
  · rename_i ty a hop
    split at h
    · rename_i id i1 st o2 hy
      split at h
      · rename_i k0 id' n0 q0 j l m e0 s0 hpc
        simp only [cond_eq_ite] at h
        split at h
        · rename_i hk
          simp only [Bool.and_eq_true] at hk
          have hst := beq_n hk.2
          obtain ⟨p1, p2, p3⟩ := pcAt_spec (E := S.E) hpc
          have hrd := pc_rd H hS.b hpc
          have hwc : cwf [Sg.f j l m] := mwf_at hS.m p1
          generalize he : l.getD i1 (FM j).d = e at h
          have main : ∀ {n : Nat} {r : List Sg0}, c0sub ((FM j).sg e) o2 n = some r → i1 < m → fmRd (FM j) w e →
              (∀ w', fmRd (FM j) w' e → ROk (S.E ++ (dcells (FM := FM) ((FM j).inn e) o2 S.E.length r).2.1) w' (dcells (FM := FM) ((FM j).inn e) o2 S.E.length r).2.2) ∧
              cden (S.E ++ (dcells (FM := FM) ((FM j).inn e) o2 S.E.length r).2.1) (dcells (FM := FM) ((FM j).inn e) o2 S.E.length r).1 = ((cden S.E [Sg.f j l m]).drop (0 + i1 * st + o2)).take n ∧
              cwf (dcells (FM := FM) ((FM j).inn e) o2 S.E.length r).1 ∧ cok (S.E.length + (dcells (FM := FM) ((FM j).inn e) o2 S.E.length r).2.1.length) (dcells (FM := FM) ((FM j).inn e) o2 S.E.length r).1 = true ∧ rwf (S.E.length + (dcells (FM := FM) ((FM j).inn e) o2 S.E.length r).2.1.length) (dcells (FM := FM) ((FM j).inn e) o2 S.E.length r).2.2 ∧
              0 + i1 * st + o2 + n ≤ (cden S.E [Sg.f j l m]).length := by
            intro n r hr hi hfm
            have hmem : e ∈ l := by
              have hl : l.length = m := hwc.1.1
              rw [← he, show l.getD i1 (FM j).d = l[i1]'(by omega) from by simp only [List.getD, List.getElem?_eq_getElem (show i1 < l.length by omega), Option.getD_some]]
              exact List.getElem_mem _
            have hew := ((FM j).hwf e).1 (hwc.1.2 e hmem)
            obtain ⟨g1, g2, g3, g4, g5⟩ := c0sub_spec (E := []) hr hew ((FM j).hok e)
            rw [(FM j).hsz] at g5
            have hdyn : cdyn [Sg.f j l m] 0 i1 st o2 n = some (r, m) := by
              unfold cdyn
              simp only [catq, Option.bind_some, Sg.elem, hst, Nat.beq_refl, cond_true, he, hr, Option.map_some]
            obtain ⟨d1, d2, d3, d4, d5⟩ := cdyn_spec (E := S.E) (N := 0) hdyn hwc hi
            have dc := fun {w' : World} (hh : fmRd (FM j) w' e) => dcells_spec (FM := FM) (F := FM j) (a := e) (E := S.E) (X := []) (r := r) (off := o2) (by rw [g4]; exact g1) (by rw [g4]; exact g5) g2 g3 (w := w') hh
            simp only [List.append_nil] at dc
            obtain ⟨z1, z2, z3, z4, z5⟩ := dc hfm
            refine ⟨fun w' hh => (dc hh).2.2.2.1, ?_, z2, z3, z5, d5⟩
            rw [z1, d1]
            have := c0ext (E := []) (X := S.E) d3
            simpa using this.symm
          have hA : ∃ ev, evT S.Td a = some ev ∧ ev = .pointer (some (adr (bas S.E id 0) (0 + i1 * st + o2))) := by
            obtain ⟨e1, -, -⟩ := evS_spec hS hy
            exact ⟨_, e1, by simp only [TV.den, SV.den, S0.den, plc_adr]⟩
          obtain ⟨ev, hev, rfl⟩ := hA
          have hop' : ((opT N ops S.Td i).bind (ldT S.Td), fl i) = (some (o.dst, ty, adr (bas S.E id 0) (0 + i1 * st + o2)), 1) := by
            rw [show opT N ops S.Td i = some o from opT_of (T := S.T) ho hd hg]
            simp only [Option.bind_some, ldT, hop, hev, hf]
          split at h
          · rename_i hag
            obtain ⟨n, hn, h1⟩ := Option.bind_eq_some_iff.1 h
            obtain ⟨r, hr, h2⟩ := Option.bind_eq_some_iff.1 h1
            clear h h1
            split at h2
            · cases h2
            · rename_i c x y ys hdc
              simp only [Option.some.injEq, Prod.mk.injEq] at h2
              obtain ⟨rfl, rfl⟩ := h2
              have hfm := dalts_fm H hR hm hp
              obtain ⟨m1, m2, m3, m4, m5, m6⟩ := main hr hφ.1 hfm
              rw [hdc] at m1 m2 m3 m4 m5
              obtain ⟨k1, k2, k3, k4, k5⟩ := dalts_ok hS H hm hp m3 m4 m5 m1
              refine ⟨k1, k2, k3, k4, fun hh => ?_⟩
              rw [k5] at hh
              exact wc_ldA hrd o.dst ty _ _ hop' (.inr ⟨n, hag, hn, m6, by simp only [SV.den, m2, Pc.ce]⟩) hh hfd
          · rename_i hag
            obtain ⟨r, hr, h2⟩ := Option.bind_eq_some_iff.1 h
            clear h
            split at h2
            · rename_i c x y ys hdc
              simp only [Option.some.injEq, Prod.mk.injEq] at h2
              obtain ⟨rfl, rfl⟩ := h2
              have hfm := dalts_fm H hR hm hp
              obtain ⟨m1, m2, m3, m4, m5, m6⟩ := main hr hφ.1 hfm
              rw [hdc] at m1 m2 m3 m4 m5
              have hlt : (SV.one c : SV FM).lt (S.E.length + x.length) = true := by
                simp only [cok, Sg.ok, Sg0.ok, Bool.and_eq_true] at m4
                exact m4.1.2
              obtain ⟨k1, k2, k3, k4, k5⟩ := dalts_ok hS H hm hp trivial hlt m5 m1
              refine ⟨k1, k2, k3, k4, fun hh => ?_⟩
              rw [k5] at hh
              refine wc_ldA hrd o.dst ty _ _ hop' (.inl ⟨hag, ?_⟩) hh hfd
              simp only [cden, Sg.den, Sg0.den, List.append_nil] at m2
              have h0 := congrArg (·[0]?) m2
              simp only [List.getElem?_cons_zero, List.getElem?_take, List.getElem?_drop] at h0
              simpa [SV.den, Pc.ce, cden, Sg.den] using h0.symm
            · cases h2
          · cases h
        · cases h
      · cases h
    · cases h
  · cases h
end
end Go.Px
