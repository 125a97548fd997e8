/-
  Regions in which loads and stores stand in no order: what is stored to is parted from what is read. No condition.
-/
import Derived.Test.YtogpbbgcdeiplaaZX
set_option linter.all false
namespace Go.Px
open Go.RowKit

section
variable {FM : Nat → Fm} {M : Nat → Prop} {w0 : World}

theorem Sep.two {w : World} : ∀ {a b : Mem} {F : Nat → Prop}, Sep w (a ++ b) F → ∃ F1 F2 : Nat → Prop, Sep w a F1 ∧ Sep w b F2 ∧ (∀ k, F1 k → ¬ F2 k) ∧ (∀ k, F1 k → F k) ∧ (∀ k, F2 k → F k)
  | [], b, F, h => ⟨fun _ => False, F, trivial, h, fun _ h => h.elim, fun _ h => h.elim, fun _ h => h⟩
  | e :: a, b, F, ⟨G, h1, h2, h3⟩ => by
    obtain ⟨F1, F2, g1, g2, g3, g4, g5⟩ := Sep.two h3
    refine ⟨fun k => G k ∨ F1 k, F2, ⟨G, h1, fun k hk => .inl hk, g1.mono fun k hk => ⟨.inr hk, (g4 k hk).2⟩⟩, g2, fun k hk hk2 => ?_, fun k hk => ?_, fun k hk => (g5 k hk).1⟩
    · rcases hk with hk | hk
      · exact (g5 k hk2).2 hk
      · exact g3 k hk hk2
    · rcases hk with hk | hk
      · exact h2 k hk
      · exact (g4 k hk).1
/-- Some pieces apart: they are a memory of their own, and what is done to it leaves the others alone. -/
theorem Hp.split {w : World} {m md mc : Mem} (H : Hp M w0 w m) (hp : m.Perm (md ++ mc)) : ∃ G : Nat → Prop, Hp G w w md ∧ ∀ w' m', Hp G w w' m' → Hp M w0 w' (m' ++ mc) := by
  obtain ⟨F1, F2, g1, g2, g3, g4, g5⟩ := Sep.two (H.perm hp).sep
  refine ⟨F1, ⟨rfl, rfl, rfl, Nat.le_refl _, fun _ _ _ => rfl, g1.mono fun k hk => ⟨(g4 k hk).1, .inr hk⟩⟩, fun w' m' H' => ?_⟩
  have hsz := H.size
  have hsz' := H'.size
  refine ⟨H'.os.trans H.os, H'.tape.trans H.tape, H'.output.trans H.output, by omega, fun k hk hM => ?_, ?_⟩
  · rw [H'.old k (by omega) fun hF => (g4 k hF).2.elim (fun h => by omega) hM]
    exact H.old k hk hM
  · refine H'.sep.app (F' := F2) (g2.agree fun k hk => H'.old k (g5 k hk).1 fun h1 => g3 k h1 hk) (fun k hk hk2 => ?_) (fun k hk => ?_) (fun k hk => ⟨by have := (g5 k hk).1; omega, (g5 k hk).2⟩)
    · rcases hk.2 with h | h
      · have := (g5 k hk2).1; omega
      · exact g3 k h hk2
    · refine ⟨hk.1, ?_⟩
      rcases hk.2 with h | h
      · exact .inl (by omega)
      · exact (g4 k h).2

theorem dpt_sub {D : List Nat} : ∀ {m : List (Pc FM)}, (dpt D m).Sublist m
  | [] => .slnil
  | p :: m => by
    simp only [dpt, cond_eq_ite]
    split
    · exact dpt_sub.cons_cons _
    · exact dpt_sub.cons _
theorem cpt_sub {D : List Nat} : ∀ {m : List (Pc FM)}, (cpt D m).Sublist m
  | [] => .slnil
  | p :: m => by
    simp only [cpt, cond_eq_ite]
    split
    · exact cpt_sub.cons _
    · exact cpt_sub.cons_cons _
theorem dc_perm {D : List Nat} : ∀ {m : List (Pc FM)}, m.Perm (dpt D m ++ cpt D m)
  | [] => .nil
  | p :: m => by
    simp only [dpt, cpt, cond_eq_ite]
    split
    · exact dc_perm.cons p
    · exact ((dc_perm (m := m)).cons p).trans List.perm_middle.symm
theorem mden_map {E : List Ad} : ∀ {m : List (Pc FM)}, mden E m = m.map (Pc.den E)
  | [] => rfl
  | p :: m => by simp only [mden, List.map_cons, mden_map (m := m)]
theorem mwf_iff : ∀ {m : List (Pc FM)}, mwf m ↔ ∀ p ∈ m, p.wf
  | [] => by simp [mwf]
  | p :: m => by simp [mwf, mwf_iff (m := m)]
theorem mlt_iff {N : Nat} : ∀ {m : List (Pc FM)}, mlt N m = true ↔ ∀ p ∈ m, p.lt N = true
  | [] => by simp [mlt]
  | p :: m => by simp [mlt, mlt_iff (m := m)]
theorem mbk_iff {E : List Ad} : ∀ {m : List (Pc FM)}, mbk E m = true ↔ ∀ p ∈ m, p.bkok E = true
  | [] => by simp [mbk]
  | p :: m => by simp [mbk, mbk_iff (m := m)]

theorem rOfM_rwf {N : Nat} : ∀ {m : List (Pc FM)}, mwf m → mlt N m = true → rwf N (rOfM m)
  | [], _, _ => trivial
  | .bk id c ty :: m, hw, hl => by
    simp only [mlt, Pc.lt, Bool.and_eq_true] at hl
    have r := rOfM_rwf (N := N) hw.2 hl.2
    simp only [rOfM, cond_eq_ite]; split
    · exact ⟨⟨hl.1.1, hw.1, hl.1.2⟩, r⟩
    · exact r
  | .sl id n q c e s :: m, hw, hl => by
    simp only [mlt, Pc.lt, Bool.and_eq_true] at hl
    have r := rOfM_rwf (N := N) hw.2 hl.2
    simp only [rOfM, cond_eq_ite]; split
    · exact ⟨⟨hl.1.1, hw.1, hl.1.2⟩, r⟩
    · exact r
  | .rd id c :: m, hw, hl => by
    simp only [mlt, Pc.lt, Bool.and_eq_true] at hl
    have r := rOfM_rwf (N := N) hw.2 hl.2
    simp only [rOfM, cond_eq_ite]; split
    · exact ⟨⟨hl.1.1, hw.1, hl.1.2⟩, r⟩
    · exact r
  | .fz rs ds :: m, hw, hl => by
    simp only [mlt, Pc.lt, Bool.and_eq_true] at hl
    exact rwf_append.2 ⟨rwf_of hw.1 hl.1, rOfM_rwf hw.2 hl.2⟩
  | .pr φ :: m, hw, hl => by
    simp only [mlt, Bool.and_eq_true] at hl
    exact rOfM_rwf (m := m) hw.2 hl.2
  | .lp _ _ _ _ :: m, hw, hl => by
    simp only [mlt, Bool.and_eq_true] at hl
    exact rOfM_rwf (m := m) hw.2 hl.2
  | .mk _ _ :: m, hw, hl => by
    simp only [mlt, Bool.and_eq_true] at hl
    exact rOfM_rwf (m := m) hw.2 hl.2
  | .mp _ _ _ :: m, hw, hl => by
    simp only [mlt, Bool.and_eq_true] at hl
    exact rOfM_rwf (m := m) hw.2 hl.2
theorem rOfM_ok {E : List Ad} {w : World} : ∀ {m : List (Pc FM)}, mbk E m = true → Hp M w0 w (mden E m) → ROk E w (rOfM m)
  | [], _, _ => trivial
  | .bk id c ty :: m, hb, H => by
    simp only [mbk, Bool.and_eq_true] at hb
    have r := rOfM_ok (m := m) hb.2 (H.sub (List.sublist_cons_self _ _))
    simp only [rOfM, cond_eq_ite]; split
    · rename_i hn
      refine ⟨⟨?_, noF_spec hn⟩, r⟩
      rw [bas_bk (show isbk E id = true from hb.1)]
      exact Rd.bkr H (k := 0) rfl
    · exact r
  | .sl id n q c e s :: m, hb, H => by
    simp only [mbk, Bool.and_eq_true] at hb
    have r := rOfM_ok (m := m) hb.2 (H.sub (List.sublist_cons_self _ _))
    simp only [rOfM, cond_eq_ite]; split
    · rename_i hn
      exact ⟨⟨Rd.sl H 0 rfl, noF_spec hn⟩, r⟩
    · exact r
  | .rd id c :: m, hb, H => by
    simp only [mbk, Bool.and_eq_true] at hb
    have r := rOfM_ok (m := m) hb.2 (H.sub (List.sublist_cons_self _ _))
    simp only [rOfM, cond_eq_ite]; split
    · rename_i hn
      exact ⟨⟨H.pr 0 rfl, noF_spec hn⟩, r⟩
    · exact r
  | .fz rs ds :: m, hb, H => by
    simp only [mbk, Bool.and_eq_true] at hb
    exact ROk_append.2 ⟨(H.pr 0 rfl).1, rOfM_ok (m := m) hb.2 (H.sub (List.sublist_cons_self _ _))⟩
  | .pr φ :: m, hb, H => by
    simp only [mbk, Bool.and_eq_true] at hb
    exact rOfM_ok (m := m) hb.2 (H.sub (List.sublist_cons_self _ _))
  | .lp _ _ _ _ :: m, hb, H => by
    simp only [mbk, Bool.and_eq_true] at hb
    exact rOfM_ok (m := m) hb.2 (H.sub (List.sublist_cons_self _ _))
  | .mk _ _ :: m, hb, H => by
    simp only [mbk, Bool.and_eq_true] at hb
    exact rOfM_ok (m := m) hb.2 (H.sub (List.sublist_cons_self _ _))
  | .mp _ _ _ :: m, hb, H => by
    simp only [mbk, Bool.and_eq_true] at hb
    exact rOfM_ok (m := m) hb.2 (H.sub (List.sublist_cons_self _ _))

theorem memF_iff {f : Nat} : ∀ {l : List Nat}, memF f l = true ↔ f ∈ l
  | [] => by simp [memF]
  | x :: r => by
    simp only [memF, Bool.or_eq_true, memF_iff (l := r), List.mem_cons, Nat.beq_eq]
    exact ⟨fun h => h.imp Eq.symm id, fun h => h.imp Eq.symm id⟩
theorem nodupN_spec : ∀ {l : List Nat}, nodupN l = true → l.Nodup
  | [], _ => .nil
  | k :: r, h => by
    simp only [nodupN, Bool.and_eq_true, Bool.not_eq_true'] at h
    refine List.nodup_cons.2 ⟨fun hm => ?_, nodupN_spec h.2⟩
    rw [memF_iff.2 hm] at h; cases h.1
theorem pickM_mem {L : List (Pc FM)} : ∀ {ks : List Nat} {m : List (Pc FM)}, pickM L ks = some m → ks.map (L[·]?) = m.map some
  | [], m, h => by simp only [pickM, Option.some.injEq] at h; subst h; rfl
  | k :: r, m, h => by
    simp only [pickM] at h
    split at h
    · rename_i p l hp hl
      simp only [Option.some.injEq] at h; subst h
      simp only [List.map_cons, hp, pickM_mem hl]
    · cases h
theorem pickM_hp {w : World} {E : List Ad} {L m : List (Pc FM)} {ks : List Nat} (h : pickM L ks = some m) (hn : nodupN ks = true) (H : Hp M w0 w (mden E L)) : Hp M w0 w (mden E m) := by
  obtain ⟨Gs, g1, g2, g3⟩ := H.sep.fam
  refine ⟨H.os, H.tape, H.output, H.size, H.old, Sep.ofFam g1 g3 (nodupN_spec hn) ?_ fun i _ k hk => g2 i k hk⟩
  have := congrArg (List.map (Option.map (Pc.den E))) (pickM_mem h)
  simp only [List.map_map] at this
  rw [mden_map, mden_map, List.map_map]
  calc _ = _ := List.map_congr_left fun i _ => by simp
    _ = _ := this
    _ = _ := by simp
theorem pickM_all {L m : List (Pc FM)} {ks : List Nat} (h : pickM L ks = some m) : ∀ p ∈ m, p ∈ L := by
  intro p hp
  have h1 := pickM_mem h
  have h2 : some p ∈ m.map some := List.mem_map.2 ⟨p, hp, rfl⟩
  rw [← h1] at h2
  obtain ⟨i, -, hi⟩ := List.mem_map.1 h2
  exact List.mem_of_getElem? hi

theorem srtM_ok {E : List Ad} {w : World} {ids : List Nat} {m : List (Pc FM)} (H : Hp M w0 w (mden E m)) : Hp M w0 w (mden E (srtM ids m)) ∧ ∀ p ∈ srtM ids m, p ∈ m := by
  unfold srtM
  split
  · simp only [cond_eq_ite]
    split
    · rename_i hn
      split
      · rename_i m' hm
        exact ⟨pickM_hp hm hn H, pickM_all hm⟩
      · exact ⟨H, fun p h => h⟩
    · exact ⟨H, fun p h => h⟩
  · exact ⟨H, fun p h => h⟩
theorem srtS_ok {S : SS FM} {w : World} {dr : Bool} {ops : Array Oper} (hS : S.WF) (H : Hp M w0 w S.md) : (srtS dr ops S).WF ∧ Hp M w0 w (srtS dr ops S).md ∧ Ext S (srtS dr ops S) ∧ (srtS dr ops S).Td = S.Td := by
  unfold srtS
  cases dr with
  | false => exact ⟨hS, H, Ext.refl S, rfl⟩
  | true =>
    obtain ⟨h1, h2⟩ := srtM_ok (ids := nwIds S.T ops.toList) H
    exact ⟨⟨mbk_iff.2 fun p hp => mbk_iff.1 hS.b p (h2 p hp), hS.r, hS.t, hS.tl, mwf_iff.2 fun p hp => mwf_iff.1 hS.m p (h2 p hp), mlt_iff.2 fun p hp => mlt_iff.1 hS.ml p (h2 p hp), hS.v⟩, h1, ⟨⟨[], rfl⟩, ⟨[], by simp⟩, rfl⟩, rfl⟩

variable {X : Cx} {N : FN} {ops : Array Oper} {Q : Exit → Act → World → Prop}

/-- A region that draws its order, told with loads that commute with stores to other blocks. -/
theorem wn_regDD {ro : Option Nat} {P : Program} {id : Nat} {ov : List (Nat × Nat)} {t : OT} {T : Tab} {w : World} {d : Nat → Prop}
    (hc : (noDefer ops && Region.noSelect ops && okT ops (flD true ops ov) false (Array.replicate ops.size false) t && P.follows .mixedOrders) = true)
    (h : ∀ w', w'.heap = w.heap → w'.os = w.os → w'.tape = w.tape → w'.output = w.output → WC P N ops (NoPanic Q) ⟨clD true ops ov, d, ro⟩ t T w') : WN ro P N (.region id ops true) Q T w := by
  simp only [Bool.and_eq_true] at hc
  intro a ha
  refine wpIn_mono (wp_region_ord (Q := NoPanic Q) (fl := ⟨clD true ops ov, d, ro⟩) (t := t) hc.2 ?_ (fun _ _ _ _ _ h => h) (h { w with drawn := w.drawn + 1 } rfl rfl rfl rfl a ha)) NoPanic.imp
  have e : okT ops ⟨clD true ops ov, d, ro⟩ false (Array.replicate ops.size false) t = okT ops (flD true ops ov) false (Array.replicate ops.size false) t := okT_c ops _ d no ro none t _ _
  rw [e]
  simp [hc.1.1.1, hc.1.1.2, hc.1.2]

variable {G : Nat → Prop} {ws : World} {fl : FL}
/-- A quiet operation that reads only what was there ahead of the region and is not stored to. -/
theorem stepQ_wcD {S : SS FM} {w : World} (hS : S.WF) (hG : RG G ws S) (H : Hp G ws w S.md) {i : Nat} {rest : OT} {o : Oper} {φ : List Prop} {v : TV FM} {x : List (Ad × Vw)} (ho : ops[i]? = some o) (hd : dstOk N o.dst = true)
    (hg : gst S.T ops o = some .want) (hf : (Nat.ble (fl i) 1 && (!(isLd o.op) || Nat.beq (fl i) 1)) = true) (hfd : fl.d = fun k => G k ∨ ws.heap.size ≤ k) (h : stepQ X (⟨S.T, S.E, [], S.V, S.R⟩ : SS FM) o = some (φ, v, x)) (hφ : All φ) :
    v.wf ∧ v.lt (S.E.length + x.length) = true ∧ vwf (S.E ++ x.map (·.1)) (x.map (·.2) ++ S.V) ∧ (WC X.P N ops Q fl rest (putT S.Td o.dst (v.den (S.E ++ x.map (·.1)))) w → WC X.P N ops Q fl (.s i rest) S.Td w) := by
  simp only [Bool.and_eq_true, Bool.or_eq_true, Bool.not_eq_true'] at hf
  obtain ⟨N', a, ha⟩ := tm_some S.Td
  have hS' : (⟨S.T, S.E, [], S.V, S.R⟩ : SS FM).WF := ⟨rfl, hS.r, hS.t, hS.tl, trivial, rfl, hS.v⟩
  have H0 : HS G ws w (⟨S.T, S.E, [], S.V, S.R⟩ : SS FM) := ⟨H.nil, hG w H.nil⟩
  have q := stepQ_ok hS' ha H0 h hφ (fun _ => KeepD.refl no w)
  refine ⟨q.wf, q.lt, q.vw, fun hh => wc_val (opT_of (T := S.T) ho hd hg) hf.1 (fun a w' ha hw' => ?_) hh⟩
  cases hl : isLd o.op with
  | false => exact (stepQ_ok hS' ha H0 h hφ fun hl' => by rw [hl] at hl'; cases hl').run
  | true =>
    rcases hf.2 with h' | h'
    · rw [hl] at h'; cases h'
    · have h1 := beq_n h'
      have hk : KeepD fl.d w w' := by
        rcases hw' with h0 | hk
        · omega
        · exact hk
      rw [hfd] at hk
      have hsz := H.size
      have H1 : Hp G ws { w with heap := w'.heap } [] := by
        refine ⟨H.os, H.tape, H.output, by have := hk.1; simp only; omega, fun k hk' hGk => ?_, trivial⟩
        show w'.heap[k]? = _
        rw [hk.2 k (by omega) fun hh => hh.elim hGk fun h => by omega]
        exact H.old k hk' hGk
      exact (stepQ_ok (w := w') (w1 := { w with heap := w'.heap }) hS' ha (⟨H1, hG _ H1⟩ : HS G ws _ (⟨S.T, S.E, [], S.V, S.R⟩ : SS FM)) h hφ fun _ => ⟨Nat.le_refl _, fun _ _ _ => rfl⟩).run

/-- A store to a block of its own. -/
theorem store_bkD {S : SS FM} {w : World} (hS : S.WF) (H : Hp G ws w S.md) (hfd : fl.d = fun k => G k ∨ ws.heap.size ≤ k) {i : Nat} {rest : OT} {o : Oper} {ty n id j k off : Nat} {y z : Operand} {v : SV FM} {c c' : Ce FM} {t : TypeId}
    (ho : ops[i]? = some o) (hd : dstOk N o.dst = true) (hg : gst S.T ops o = some .want) (hf : fl i = 2) (hop : o.op = .store ty y z) (hdst : o.dst = none)
    (hy : evS X S none y = some (.v (.one (.pt id off)))) (hz : evS X S (some ty) z = some (.v v)) (hn : sizeB X.P ty = some n) (hcn : cn v.ce = n) (hck : cok S.E.length v.ce = true)
    (hp : pcAt S.m id = some (k, .bk j c t)) (hc : cput c off v.ce = some c') :
    ({ S with m := S.m.set k (.bk j c' t) } : SS FM).WF ∧ ((∀ w', Hp G ws w' ({ S with m := S.m.set k (.bk j c' t) } : SS FM).md → WC X.P N ops Q fl rest S.Td w') → WC X.P N ops Q fl (.s i rest) S.Td w) := by
  obtain ⟨p1, p2, p3⟩ := pcAt_spec (E := S.E) hp
  simp only [Pc.id?, Option.some.injEq] at p3; subst p3
  have hbk : isbk S.E j = true := mbk_at hS.b p1
  have hlt : (Nat.blt j S.E.length && cok S.E.length c) = true := mlt_at hS.ml p1
  simp only [Bool.and_eq_true] at hlt
  have hcw : cwf c := mwf_at hS.m p1
  obtain ⟨e1, -, -⟩ := evS_spec hS hy
  obtain ⟨e2, hvw, -⟩ := evS_spec hS hz
  obtain ⟨g1, g2, g3, g4, g5⟩ := cput_spec (E := S.E) hc hcw hlt.2 (SV.ce_wf hvw) hck
  refine ⟨hS.setm g2 (by show (Nat.blt j S.E.length && cok S.E.length c') = true; rw [hlt.1, g3]; rfl) hbk, fun h => ?_⟩
  have hcells := SV.ce_cells (E := S.E) hck
  have hvl := clen (E := S.E) (SV.ce_wf hvw)
  have e1 : evT S.Td y = some (.pointer (some (plc S.E j off))) := e1
  rw [plc_bk hbk] at e1
  have hdd : fl.d (bno S.E j) := by
    obtain ⟨G', h1, h2, -⟩ := H.sep.at p2
    have := h2 _ h1.2
    rw [hfd]
    exact this.2.elim .inr .inl
  refine wc_stD H k (b := bno S.E j) (off := off) (Tb := t) (vs := cden S.E v.ce) (cs' := cden S.E c') ty (v.den S.E) n ?_ hdd hcells p2 (by rw [hvl, hcn]) (by rw [clen hcw]; omega) (cflat hck) g1.symm (fun w' H' => h w' ?_)
  · rw [show opT N ops S.Td i = some o from opT_of (T := S.T) ho hd hg]
    simp only [Option.bind_some, stT, hop, hdst, e1, e2, hf, hn]
    rfl
  · have : (mden S.E S.m).set k (.bk (bno S.E j) (row (cden S.E c') t)) = mden S.E (S.m.set k (.bk j c' t)) := by rw [mden_set]; rfl
    rw [SS.md] at H'
    rw [this] at H'; exact H'

/-- A new block. -/
theorem newK_ok {S : SS FM} {w : World} (hS : S.WF) (H : Hp M w0 w S.md) (hG : RG M w0 S) {i : Nat} {rest : OT} {o : Oper} (ho : ops[i]? = some o) (hd : dstOk N o.dst = true) (hg : gst S.T ops o = some .want) (hf : Nat.ble 2 (fl i) = true) {K : SS FM → Prop}
    (h : newK X S o K) (hK : ∀ S' w', K S' → S'.WF → RG M w0 S' → Hp M w0 w' S'.md → Ew S S' → WC X.P N ops Q fl rest S'.Td w') : WC X.P N ops Q fl (.s i rest) S.Td w := by
  unfold newK at h
  have new_at : ∀ b, bno (S.E ++ [.bk b]) S.E.length = b := fun b => by unfold bno; simp
  have new_bk : ∀ b, isbk (S.E ++ [.bk b]) S.E.length = true := fun b => by unfold isbk; simp
  have hlt : Nat.blt S.E.length (S.E.length + 1) = true := Nat.blt_eq.mpr (by omega)
  obtain ⟨N', a0, ha0⟩ := tm_some S.Td
  split at h
  · rename_i c ty hc
    simp only [cond_eq_ite] at h
    split at h
    · rename_i hk
      have hcw := (newC_ok hS hc hk ha0 w).1
      refine wc_newS (v := fun r => .pointer (some ⟨r, 0, none⟩)) H ho hd hg hf (fun a ha w => (newC_ok hS hc hk ha w).2.1 rfl) (fun b w' H' => ?_)
      have hm : (⟨setT S.T o.dst (some (.v (.one (.pt S.E.length 0)))), S.E ++ [.bk b], [.bk S.E.length c ty] ++ S.m, S.V, S.R⟩ : SS FM).md = .bk b (row (cden S.E c) ty) :: S.md := by
        show mden (S.E ++ [.bk b]) (.bk S.E.length c ty :: S.m) = _
        simp only [mden, Pc.den, new_at, cext hk, mden_ext hS.ml]; rfl
      have hW : (⟨setT S.T o.dst (some (.v (.one (.pt S.E.length 0)))), S.E ++ [.bk b], [.bk S.E.length c ty] ++ S.m, S.V, S.R⟩ : SS FM).WF :=
        add_wf hS trivial hlt ⟨hcw, trivial⟩ (by simp only [mlt, Pc.lt, hlt, cok_mono (Nat.le_succ _) hk, List.length_singleton, Bool.and_self]) (by simp only [mbk, Pc.bkok, new_bk, Bool.and_self])
      have := hK _ w' (h b) hW (hG.ext hS.r add_ext) (by rw [hm]; exact H') add_ext.w
      have this : WC _ _ _ _ _ _ (tden _ (setT S.T o.dst (some _))) _ := this
      rw [tden_setT, tden_ext hS.tl] at this
      simp only [TV.den, SV.den, S0.den, plc_bk (new_bk b), new_at] at this
      exact this
    · exact h.elim
  · rename_i c ty n s hc
    simp only [cond_eq_ite] at h
    split at h
    · rename_i hk
      have hcw := (newC_ok hS hc hk ha0 w).1
      obtain ⟨l1, l2, -⟩ := (newC_ok hS hc hk ha0 w).2.2 n s rfl
      refine wc_newS (v := fun r => .slice (some ⟨r, 0, none⟩) n n) H ho hd hg hf (fun a ha w => ((newC_ok hS hc hk ha w).2.2 n s rfl).2.2) (fun b w' H' => ?_)
      have hb0 : bas (S.E ++ [.bk b]) S.E.length 0 = some ⟨b, 0, none⟩ := by rw [bas_bk (new_bk b), new_at]
      have hm : (⟨setT S.T o.dst (some (.v (.one (.sc S.E.length 0 n n false)))), S.E ++ [.bk b], [.sl S.E.length n n c ty s] ++ S.m, S.V, S.R⟩ : SS FM).md = .sl (some ⟨b, 0, none⟩) n n (cden S.E c) ty s :: S.md := by
        show mden (S.E ++ [.bk b]) (.sl S.E.length n n c ty s :: S.m) = _
        simp only [mden, Pc.den, hb0, cext hk, mden_ext hS.ml]; rfl
      have hW : (⟨setT S.T o.dst (some (.v (.one (.sc S.E.length 0 n n false)))), S.E ++ [.bk b], [.sl S.E.length n n c ty s] ++ S.m, S.V, S.R⟩ : SS FM).WF :=
        add_wf hS trivial hlt ⟨hcw, trivial⟩ (by simp only [mlt, Pc.lt, hlt, cok_mono (Nat.le_succ _) hk, List.length_singleton, Bool.and_self]) rfl
      have := hK _ w' (h b) hW (hG.ext hS.r add_ext) (by rw [hm]; exact H'.toSl' n s l1 l2) add_ext.w
      have this : WC _ _ _ _ _ _ (tden _ (setT S.T o.dst (some _))) _ := this
      rw [tden_setT, tden_ext hS.tl] at this
      simp only [TV.den, SV.den, S0.den, hb0] at this
      exact this
    · exact h.elim
  · exact h.elim

theorem dapQ_ok {X : Cx} {S S2 : SS FM} {o : Oper} {φ : List Prop} {w : World} (hS : S.WF) (H : Hp M w0 w S.md) (h : dapQ X S o = some (φ, S2)) (hφ : All φ) : S2.T = S.T ∧ S2.E = S.E ∧ S2.R = S.R ∧ S2.WF ∧ Hp M w0 w S2.md := by
  unfold dapQ at h
  split at h
  · simp only [cond_eq_ite] at h
    split at h
    · split at h
      · obtain ⟨j, hj, h⟩ := Option.bind_eq_some_iff.1 h
        split at h
        · split at h
          · split at h
            · split at h
              · obtain ⟨f', hf, h1⟩ := Option.bind_eq_some_iff.1 h
                obtain ⟨m1, hm1, h2⟩ := Option.bind_eq_some_iff.1 h1
                obtain ⟨m2, hm2, h3⟩ := Option.map_eq_some_iff.1 h2
                simp only [Prod.mk.injEq] at h3
                obtain ⟨rfl, rfl⟩ := h3
                obtain ⟨a1, a2, a3⟩ := wfz_ok H
                have b1 := frzAll_spec (m' := m1.1) (kf' := m1.2) hm1 a1
                obtain ⟨b2, b3⟩ := frzAll_wf (E := S.E) (m' := m1.1) (kf' := m1.2) hm1
                obtain ⟨c1, c2⟩ := packK_spec (m' := m2.1) (φ := m2.2) hm2 hφ (b3 (a3 hS.m)) b1
                have c3 := (a2.trans b2).trans (packK_kp (m' := m2.1) (φ := m2.2) hm2)
                exact ⟨rfl, rfl, rfl, ⟨c3.2 hS.b, hS.r, hS.t, hS.tl, c2, c3.1 hS.ml, hS.v⟩, c1⟩
              · cases h
            · cases h
          · cases h
        · cases h
      · cases h
    · cases h
  · cases h
/-! ### A slice put into a record -/
theorem dfzQ_ok {X : Cx} {S S2 : SS FM} {o : Oper} {w : World} (hS : S.WF) (H : Hp M w0 w S.md) (h : dfzQ X S o = some S2) : S2.T = S.T ∧ S2.E = S.E ∧ S2.R = S.R ∧ S2.WF ∧ Hp M w0 w S2.md := by
  unfold dfzQ at h
  split at h
  · split at h
    · obtain ⟨f', hf, h1⟩ := Option.bind_eq_some_iff.1 h
      obtain ⟨m1, hm1, rfl⟩ := Option.map_eq_some_iff.1 h1
      obtain ⟨a1, a2, a3⟩ := wfz_ok H
      have b1 := frzAll_spec (m' := m1.1) (kf' := m1.2) hm1 a1
      obtain ⟨b2, b3⟩ := frzAll_wf (E := S.E) (m' := m1.1) (kf' := m1.2) hm1
      obtain ⟨c1, c2, c3⟩ := nrmF_ok (E := S.E) (w := w) (w0 := w0) (M := M) (m := m1.1)
      have d := (a2.trans b2).trans c2
      exact ⟨rfl, rfl, rfl, ⟨d.2 hS.b, hS.r, hS.t, hS.tl, c3 (b3 (a3 hS.m)), d.1 hS.ml, hS.v⟩, c1 b1⟩
    · cases h
  · cases h
theorem putQ_ok {X : Cx} {N : FN} {ops : Array Oper} {fl : FL} {S : SS FM} {Q : Exit → Act → World → Prop} {w : World} (hS : S.WF) (H : Hp M w0 w S.md) {i : Nat} {rest : OT} {o : Oper} {φ : List Prop} {j : Nat} {l : List (FM j).α} {g : List (FM j).α → SS FM}
    (ho : ops[i]? = some o) (hd : dstOk N o.dst = true) (hg : gst S.T ops o = some .want) (hf : fl i = 3)
    (h : putQ X S o = some (φ, ⟨j, l, g⟩)) (hφ : All φ) : (g l).WF ∧ (g l).T = S.T ∧ (g l).E = S.E ∧ (g l).R = S.R ∧ ((∀ w', Hp M w0 w' (g l).md → WC X.P N ops Q fl rest S.Td w') → WC X.P N ops Q fl (.s i rest) S.Td w) := by
  unfold putQ at h
  split at h
  · rename_i ty y z hop hdst
    split at h
    · rename_i id i1 st o2 v n hy hz hn
      split at h
      · rename_i k id' n0 q j1 l1 len e s f hp hfz
        split at h
        · rename_i rs ds hfm
          simp only [cond_eq_ite] at h
          split at h
          · rename_i hc
            simp only [Bool.and_eq_true] at hc
            obtain ⟨⟨⟨hst, hcn⟩, hck⟩, hn1⟩ := hc
            have hst := beq_n hst
            have hcn := beq_n hcn
            have hn1 := Nat.le_of_ble_eq_true hn1
            obtain ⟨c', hc', h⟩ := Option.bind_eq_some_iff.1 h
            obtain ⟨⟨D, φ'⟩, hD, h⟩ := Option.bind_eq_some_iff.1 h
            split at h
            · rename_i a hda
              cases h
              obtain ⟨hi, hφ⟩ := hφ
              obtain ⟨p1, -, -⟩ := pcAt_spec (E := S.E) hp
              have hw : cwf [Sg.f j l1 len] := mwf_at hS.m p1
              obtain ⟨⟨hlen, hall⟩, -⟩ := hw
              have hi' : i1 < l1.length := by omega
              obtain ⟨hz1, hvw, -⟩ := evS_spec hS hz
              obtain ⟨q1, q2⟩ := fden_get (F := FM j) hall hi'
              have w0' := up0_wf (FM := FM) (((FM j).hwf _).1 q2)
              obtain ⟨g1, g2, g3, g4, g5⟩ := cput_spec (E := S.E) (N := S.E.length) hc' w0' (up0_ok (c0ok_mono (Nat.zero_le _) ((FM j).hok _))) (SV.ce_wf hvw) hck
              obtain ⟨d1, d2, d3⟩ := dcFz_spec hD hφ g2
              rw [up0_n, (FM j).hsz] at g4 g5
              rw [up0_den, fm_den0] at g1
              have key : ∀ w', ROk S.E w' rs → dcden D = fden (FM j) [a] ∧ ∀ b ∈ [a], (FM j).wf b ∧ fmRd (FM j) w' b := fun w' hR => dchk_spec (w := w') hda d2 (d3 w' hR)
              have h0 := H.pr f (mden_at (E := S.E) hfm)
              obtain ⟨k1, k2⟩ := key w h0.1
              have hwa : (FM j).wf a := (k2 a (by simp)).1
              have hval : c0den [] ((FM j).sg a) = blit (c0den [] ((FM j).sg (l1.getD i1 (FM j).d))) o2 (cden S.E v.ce) := by
                rw [← g1, ← d1, k1]; simp [fden]
              have hvl := clen (E := S.E) (SV.ce_wf hvw)
              have hfl := fden_length (F := FM j) hall
              have hmul : i1 * (FM j).sz + (FM j).sz ≤ l1.length * (FM j).sz := by
                have := Nat.mul_le_mul_right (FM j).sz (show i1 + 1 ≤ l1.length by omega)
                rw [Nat.succ_mul] at this; exact this
              have hset : cden S.E [Sg.f j (l1.set i1 a) len] = blit (cden S.E [Sg.f j l1 len]) (i1 * st + o2) (cden S.E v.ce) := by
                simp only [cden, Sg.den, List.append_nil]
                rw [fden_set hall hwa hi', hval, ← q1, hst]
                exact blit_blit (by rw [hvl]; omega) (by rw [hfl]; omega)
              have hwf' : cwf [Sg.f j (l1.set i1 a) len] := ⟨⟨by simpa using hlen, fun b hb => by
                rcases List.mem_or_eq_of_mem_set hb with hb | rfl
                · exact hall b hb
                · exact hwa⟩, trivial⟩
              obtain ⟨r1, r2⟩ := store_sl (off := i1 * st + o2) (Q := Q) (rest := rest) (c := [Sg.f j l1 len]) (c' := [Sg.f j (l1.set i1 a) len]) hS H ho hd hg hf hop hdst hy (by simp only [S0.den, Nat.zero_add]) ⟨hz1, hvw⟩ hn hcn hck hn1 hp hset hwf' (by simp [cok, Sg.ok]) (by
                simp only [cden, Sg.den, List.append_nil]; rw [hfl, hst]; omega)
              have hne : k ≠ f := fun e => by rw [e, hfm] at p1; simp at p1
              have hfm' : (S.m.set k (Pc.sl id' n0 q [Sg.f j (l1.set i1 a) len] e s))[f]? = some (.fz rs ds) := by
                rw [List.getElem?_set_ne hne]; exact hfm
              have wf : rswf rs := mwf_at hS.m hfm
              have wl : rslt S.E.length rs = true := mlt_at hS.ml hfm
              refine ⟨r1.setm wf wl rfl, rfl, rfl, rfl, fun hK => r2 fun w' H' => hK w' ?_⟩
              show Hp M w0 w' (mden S.E _)
              rw [mden_set]
              exact Hp.prTo H' f (φ := fun w => ROk S.E w rs ∧ dsOk w ds) (mden_at (E := S.E) hfm') fun w' hw' => ⟨hw'.1, ⟨⟨fun b hb => ((key w' hw'.1).2 b hb).2, trivial⟩, hw'.2⟩⟩
            · cases h
          · cases h
        · cases h
      · cases h
    · cases h
  · cases h
/-- What an operation comes to, with what is asked behind it told otherwise. -/
def QL (Q : Exit → Act → World → Prop) (K : Act → World → Prop) : Exit → Act → World → Prop
  | .normal, a, w => K a w
  | .exit i, a, w => Q (.exit i) a w
  | .goto l, a, w => Q (.goto l) a w
  | .ret, a, w => Q .ret a w
  | .panic c, a, w => Q (.panic c) a w
  | .outgrown, a, w => Q .outgrown a w
theorem uponR_Q {ro : Option Nat} {P : Program} {o : Oper} {a : Act} {K : Act → World → Prop} {Q Q' : Exit → Act → World → Prop} (h1 : ∀ c a w, Q' (.panic c) a w → Q (.panic c) a w) (h2 : ∀ a w, Q' .outgrown a w → Q .outgrown a w) {r : Result Next} (h : uponR ro P o a K Q' r) : uponR ro P o a K Q r := by
  have lo : LetsOut Q' → LetsOut Q := fun ⟨a, w, h⟩ => ⟨a, w, h2 a w h⟩
  cases r with
  | ok x w' =>
    cases x <;> simp only [uponR] at h ⊢ <;>
      first
        | exact h
        | exact Calls.mono h (fun e w'' he => by cases e <;> first | exact he | exact h1 _ _ _ he | exact lo he)
        | exact RoundIn.mono h (fun e w'' he => by cases e <;> first | exact he | exact h1 _ _ _ he | exact lo he)
  | halt x w' => cases x <;> simp only [uponR] at h ⊢ <;> first | exact h | exact h1 _ _ _ h
theorem wpOpR_Q {ro : Option Nat} {P : Program} {i : Nat} {K : Act → World → Prop} {Q Q' : Exit → Act → World → Prop} (h1 : ∀ c a w, Q' (.panic c) a w → Q (.panic c) a w) (h2 : ∀ a w, Q' .outgrown a w → Q .outgrown a w) {a : Act} {w : World} (h : wpOpR ro P ops Q' i K a w) : wpOpR ro P ops Q i K a w := by
  unfold wpOpR at *
  split
  · rename_i e; simp only [e] at h; exact h
  · rename_i o e
    simp only [e] at h
    split
    · rename_i hw; simp only [hw, if_true] at h; exact uponR_Q h1 h2 h
    · rename_i hw; simp only [hw] at h; exact h
/-- An operation that changes no block beside those that may be changed, out of one that changes any. -/
theorem wc_lower {P : Program} {T : Tab} {w : World} {i : Nat} {rest : OT} {o : Oper} (ho : ops[i]? = some o) (hf : fl i = 2)
    (h : WC P N ops (QL Q (fun a' w' => KeepD fl.d w w' ∧ wpC P ops Q fl rest a' w')) ⟨fun _ => 3, fl.d, fl.ro⟩ (.s i .nil) T w) : WC P N ops Q fl (.s i rest) T w := by
  intro a ha
  have := h a ha
  simp only [wpC, ho] at this ⊢
  rw [if_neg (by decide)] at this
  rw [if_neg (by omega)]
  exact wpOpR_mono (fun a' w' h' => ⟨fun _ => h'.2.1, h'.2.2⟩) (wpOpR_Q (Q := Q) (Q' := QL Q (fun a' w' => KeepD fl.d w w' ∧ wpC P ops Q fl rest a' w')) (fun _ _ _ h => h) (fun _ _ h => h) this)
theorem Hp.here {w : World} {m : Mem} (H : Hp G ws w m) : Hp (fun k => k < w.heap.size ∧ (ws.heap.size ≤ k ∨ G k)) w w m :=
  ⟨rfl, rfl, rfl, Nat.le_refl _, fun _ _ _ => rfl, H.sep.mono fun k hk => ⟨hk.1, .inr hk⟩⟩
theorem Hp.since {w w' : World} {m m' : Mem} (H : Hp G ws w m) (H' : Hp (fun k => k < w.heap.size ∧ (ws.heap.size ≤ k ∨ G k)) w w' m') : Hp G ws w' m' := by
  have h1 := H.size
  have h2 := H'.size
  refine ⟨H'.os.trans H.os, H'.tape.trans H.tape, H'.output.trans H.output, by omega, fun k hk hG => ?_, H'.sep.mono fun k hk => ⟨hk.1, ?_⟩⟩
  · rw [H'.old k (by omega) fun hh => hh.2.elim (fun h => by omega) hG]
    exact H.old k hk hG
  · rcases hk.2 with h | h
    · exact .inl (by omega)
    · exact h.2
theorem appQ_low {S : SS FM} {w : World} (hS : S.WF) (hG : RG G ws S) (H : Hp G ws w S.md) (hfd : fl.d = fun k => G k ∨ ws.heap.size ≤ k) {i : Nat} {rest : OT} {o : Oper} {φ : List Prop} {hy : Nat → List Prop} {g : Option Addr → Nat → SS FM}
    (ho : ops[i]? = some o) (hd : dstOk N o.dst = true) (hg : gst S.T ops o = some .want) (hf : fl i = 2) (hx : appQ X S o = some (φ, hy, g)) (hφ : All φ)
    (hw : ∀ A q w', All (hy q) → (g A q).WF → Ext S (g A q) → Hp G ws w' (g A q).md → WC X.P N ops Q fl rest (g A q).Td w') : WC X.P N ops Q fl (.s i rest) S.Td w := by
  refine wc_lower ho hf ?_
  have go : ∀ A q w', All (hy q) → (g A q).WF → Ext S (g A q) → Hp (fun k => k < w.heap.size ∧ (ws.heap.size ≤ k ∨ G k)) w w' (g A q).md →
      WC X.P N ops (QL Q (fun a' w' => KeepD fl.d w w' ∧ wpC X.P ops Q fl rest a' w')) ⟨fun _ => 3, fl.d, fl.ro⟩ .nil (g A q).Td w' := fun A q w' h1 h2 h3 H' =>
    wc_nil rfl fun a ha => ⟨⟨H'.size, fun k hk hnd => H'.old k hk fun hF => hnd (by rw [hfd]; exact hF.2.elim .inr .inl)⟩, hw A q w' h1 h2 h3 (H.since H') a ha⟩
  unfold appQ at hx
  split at hx
  · rename_i y z t t' hop
    simp only [cond_eq_ite] at hx
    split at hx
    · rename_i htt
      have := beq_n htt; subst this
      exact appX_ok hS ⟨H.here, (hG.hs H).2⟩ ho hd hg rfl hop hx hφ go
    · exact azX_ok hS ⟨H.here, (hG.hs H).2⟩ ho hd hg rfl hop hx hφ go
  · cases hx
theorem drun_ok {rc : RC FM} (hfd : fl.d = fun k => G k ∨ ws.heap.size ≤ k) : ∀ (t : OT) (S : SS FM) (w : World) (K : SS FM → Prop), drun rc N ops fl.c t S K → S.WF → RG G ws S → Hp G ws w S.md →
    (∀ S' w', K S' → S'.WF → RG G ws S' → Hp G ws w' S'.md → Ew S S' → At N S'.Td w' (Q .normal)) → WC rc.X.P N ops Q fl t S.Td w
  | .nil, S, w, K, h, hS, hG, H, hK => wc_nil rfl (hK S w h hS hG H (Ext.refl S).w)
  | .br t u, S, w, K, h, hS, hG, H, hK => wc_br rfl (drun_ok hfd t S w K h.1 hS hG H hK) (drun_ok hfd u S w K h.2 hS hG H hK)
  | .s i rest, S, w, K, h, hS, hG, H, hK => by
    simp only [drun] at h
    split at h
    · exact h.elim
    rename_i o ho
    simp only [cond_eq_ite] at h
    split at h
    · exact h.elim
    rename_i hd
    have hd : dstOk N o.dst = true := by simpa using hd
    have newc : ∀ {K' : SS FM → Prop}, gst S.T ops o = some .want → Nat.ble 2 (fl.c i) = true → newK rc.X S o (fun S' => drun rc N ops fl.c rest S' K) → WC rc.X.P N ops Q fl (.s i rest) S.Td w := fun hg hf h =>
      newK_ok hS H hG ho hd hg hf h fun S' w' h' h1 h2 h3 h4 => drun_ok hfd rest S' w' K h' h1 h2 h3 fun S2 w2 k0 k1 k2 k3 k4 => hK S2 w2 k0 k1 k2 k3 (h4.trans k4)
    split at h
    · rename_i hg
      have hx := withT_ext (S := S) (T := setT S.T o.dst (skV ops i)) (setT_ext _ _ _)
      exact wc_skipS (E := S.E) (T := S.T) ho hd hg (drun_ok hfd rest { S with T := setT S.T o.dst (skV ops i) } w K h (hS.withT (stwf_set hS.t (skV_wf _ _)) (stlt_set hS.tl (skV_lt _ _ _))) (hG.ext hS.r hx) H fun S2 w2 k0 k1 k2 k3 k4 => hK S2 w2 k0 k1 k2 k3 (hx.w.trans k4))
    · rename_i hg
      split at h
      · rename_i ty y z hop
        split at h
        · rename_i id off v n hy hz hn hdst
          split at h
          · rename_i k j c t hp
            split at h
            · rename_i hc
              simp only [Bool.and_eq_true] at hc
              split at h
              · rename_i c' hc'
                obtain ⟨q1, q2⟩ := store_bkD (Q := Q) (rest := rest) hS H hfd ho hd hg (beq_n hc.1.1) hop hdst hy hz hn (beq_n hc.1.2) hc.2 hp hc'
                have hx : Ext S ({ S with m := S.m.set k (.bk j c' t) } : SS FM) := ⟨⟨[], rfl⟩, ⟨[], by simp⟩, rfl⟩
                exact q2 fun w' H' => drun_ok hfd rest { S with m := S.m.set k (.bk j c' t) } w' K h q1 (hG.ext hS.r hx) H' fun S2 w2 k0 k1 k2 k3 k4 => hK S2 w2 k0 k1 k2 k3 (hx.w.trans k4)
              · exact h.elim
            · exact h.elim
          · exact h.elim
        · exact h.elim
      · split at h
        · rename_i hf; exact newc (K' := K) hg hf h
        · exact h.elim
      · split at h
        · rename_i hf; exact newc (K' := K) hg hf h
        · exact h.elim
      · split at h
        · rename_i hf; exact newc (K' := K) hg hf h
        · exact h.elim
      · split at h
        · rename_i φ v x hq
          have hq := stepN_some hq
          split at h
          · rename_i hf
            obtain ⟨hφ, h⟩ := andL_iff.1 h
            obtain ⟨q1, q2, q3, q4⟩ := stepQ_wcD (Q := Q) (rest := rest) hS hG H ho hd hg hf hfd hq hφ
            refine q4 ?_
            have := drun_ok hfd rest (putS S o.dst v x) w K h (wr_top hS q1 q2 q3) (hG.ext hS.r putS_ext) (by rw [putS_md hS]; exact H) fun S2 w2 k0 k1 k2 k3 k4 => hK S2 w2 k0 k1 k2 k3 (putS_ext.w.trans k4)
            rw [putS_Td hS] at this
            exact this
          · exact h.elim
        · split at h
          · rename_i φ0 S2 hq
            split at h
            · rename_i φ hy g hx
              split at h
              · rename_i hf
                obtain ⟨hφ0, h⟩ := andL_iff.1 h
                obtain ⟨hφ, h⟩ := andL_iff.1 h
                obtain ⟨hT, hE, hR2, hS2, H2⟩ := dapQ_ok hS H hq hφ0
                have hx2 : Ext S S2 := ⟨⟨[], by rw [hT]; rfl⟩, ⟨[], by rw [hE]; simp⟩, hR2⟩
                have hg2 : gst S2.T ops o = some .want := by rw [hT]; exact hg
                have hTd : S2.Td = S.Td := by unfold SS.Td; rw [hT, hE]
                rw [← hTd]
                exact appQ_low hS2 (hG.ext hS.r hx2) H2 hfd ho hd hg2 (beq_n hf) hx hφ fun A q w' h1 h2 h3 H' =>
                  drun_ok hfd rest (g A q) w' K (impL_of (h A q) h1) h2 (hG.ext hS.r (hx2.trans h3)) H' fun S3 w2 k0 k1 k2 k3 k4 => hK S3 w2 k0 k1 k2 k3 ((hx2.trans h3).w.trans k4)
              · exact h.elim
            · exact h.elim
          split at h
          · rename_i φ hy g hx
            split at h
            · rename_i hf
              obtain ⟨hφ, h⟩ := andL_iff.1 h
              exact appQ_low hS hG H hfd ho hd hg (beq_n hf) hx hφ fun A q w' h1 h2 h3 H' =>
                drun_ok hfd rest (g A q) w' K (impL_of (h A q) h1) h2 (hG.ext hS.r h3) H' fun S3 w2 k0 k1 k2 k3 k4 => hK S3 w2 k0 k1 k2 k3 (h3.w.trans k4)
            · exact h.elim
          split at h
          · rename_i f l hc
            split at h
            · rename_i φ p hp
              split at h
              · rename_i hk
                simp only [Bool.and_eq_true] at hk
                obtain ⟨hφ, h⟩ := andL_iff.1 h
                refine wc_callS hS (hG.hs H) ho hd hg hk.1.1 hc hk.2 hk.1.2 hp hφ fun y w' f1 f2 f3 H' => ?_
                have h := h y
                split at h
                · rename_i hck
                  simp only [wfck, Bool.and_eq_true] at hck
                  have h := impL_of h (All_append.2 ⟨TV.hy_iff.2 f1, All_append.2 ⟨mhy_iff.2 f2, f3⟩⟩)
                  have := drun_ok hfd rest _ w' K h (add_wf hS (TV.sh_wf.2 f1) hck.1.1 (msh_wf.2 f2) hck.1.2 hck.2) (hG.ext hS.r add_ext) H' fun S2 w2 k0 k1 k2 k3 k4 => hK S2 w2 k0 k1 k2 k3 (add_ext.w.trans k4)
                  have this : WC _ _ _ _ _ _ (tden _ (setT S.T o.dst (some _))) _ := this
                  rw [tden_setT, tden_ext hS.tl] at this
                  exact this
                · exact h.elim
              · exact h.elim
            · exact h.elim
          · exact h.elim
    · exact h.elim

theorem dreg_ok {rc : RC FM} {ro : Option Nat} {id : Nat} {ov : List (Nat × Nat)} {t : OT} {D : List Nat} {S : SS FM} {w : World} {K : SS FM → Prop} (hS : S.WF) (hG : RG M w0 S) (H : Hp M w0 w S.md)
    (hc : (noDefer ops && Region.noSelect ops && okT ops (flD true ops ov) false (Array.replicate ops.size false) t && rc.X.P.follows .mixedOrders) = true)
    (h : drun rc N ops (clD true ops ov) t ⟨S.T, S.E, dpt D S.m, S.V, rOfM (cpt D S.m) ++ S.R⟩ (fun S1 => match mrgD D (opIds S.E.length S1.T ops.toList) S.m S1.m with
      | some m => K ⟨S1.T, S1.E, nrmF m, S1.V, S.R⟩
      | none => False))
    (hK : ∀ S' w', K S' → S'.WF → RG M w0 S' → Hp M w0 w' S'.md → Ew S S' → At N S'.Td w' (NoPanic Q .normal)) : WN ro rc.X.P N (.region id ops true) Q S.Td w := by
  have hperm : S.md.Perm (mden S.E (dpt D S.m) ++ mden S.E (cpt D S.m)) := by
    unfold SS.md
    rw [mden_map, mden_map, mden_map, ← List.map_append]
    exact dc_perm.map _
  obtain ⟨G, Hd, back⟩ := H.split hperm
  have mb := mbk_iff.1 hS.b
  have ml := mlt_iff.1 hS.ml
  have mw := mwf_iff.1 hS.m
  have cb : mbk S.E (cpt D S.m) = true := mbk_iff.2 fun p hp => mb p (cpt_sub.subset hp)
  have cw : mwf (cpt D S.m) := mwf_iff.2 fun p hp => mw p (cpt_sub.subset hp)
  have cl : mlt S.E.length (cpt D S.m) = true := mlt_iff.2 fun p hp => ml p (cpt_sub.subset hp)
  have hSd : (⟨S.T, S.E, dpt D S.m, S.V, rOfM (cpt D S.m) ++ S.R⟩ : SS FM).WF :=
    ⟨mbk_iff.2 fun p hp => mb p (dpt_sub.subset hp), rwf_append.2 ⟨rOfM_rwf cw cl, hS.r⟩, hS.t, hS.tl, mwf_iff.2 fun p hp => mw p (dpt_sub.subset hp), mlt_iff.2 fun p hp => ml p (dpt_sub.subset hp), hS.v⟩
  have hGd : RG G w (⟨S.T, S.E, dpt D S.m, S.V, rOfM (cpt D S.m) ++ S.R⟩ : SS FM) := fun w' H' => by
    have h1 := back w' [] H'
    rw [List.nil_append] at h1
    exact ROk_append.2 ⟨rOfM_ok cb h1, hG w' h1.nil⟩
  refine wn_regDD (d := fun k => G k ∨ w.heap.size ≤ k) hc fun w' e1 e2 e3 e4 => ?_
  refine drun_ok (fl := ⟨clD true ops ov, fun k => G k ∨ w.heap.size ≤ k, ro⟩) rfl t ⟨S.T, S.E, dpt D S.m, S.V, rOfM (cpt D S.m) ++ S.R⟩ w' _ h hSd hGd (Hd.same e1 e2 e3 e4) fun S1 w1 hk k1 k2 k3 k4 => ?_
  split at hk
  · rename_i m hm
    unfold mrgD at hm
    · simp only [cond_eq_ite] at hm
      split at hm
      · rename_i hn
        obtain ⟨⟨A, hA⟩, ⟨Y, hY⟩⟩ := k4
        have hA : S1.T = A ++ S.T := hA
        have hY : S1.E = S.E ++ Y := hY
        have hlen : S1.E.length = S.E.length + Y.length := by rw [hY]; simp
        have e5 : mden S1.E (cpt D S.m) = mden S.E (cpt D S.m) := by rw [hY, mden_ext cl]
        have Hm : Hp M w0 w1 (mden S1.E (S1.m ++ cpt D S.m)) := by
          rw [mden_append, e5]; exact back w1 _ k3
        have Hm := pickM_hp hm hn Hm
        have pm := pickM_all hm
        have pb : ∀ p ∈ S1.m ++ cpt D S.m, p.bkok S1.E = true := mbk_iff.1 (mbk_append.2 ⟨k1.b, by rw [hY]; exact mbk_ext cb⟩)
        have pl : ∀ p ∈ S1.m ++ cpt D S.m, p.lt S1.E.length = true := mlt_iff.1 (mlt_append.2 ⟨k1.ml, by rw [hlen]; exact mlt_mono (by omega) cl⟩)
        have pw : ∀ p ∈ S1.m ++ cpt D S.m, p.wf := mwf_iff.1 (mwf_append.2 ⟨k1.m, cw⟩)
        show At N (⟨S1.T, S1.E, nrmF m, S1.V, S.R⟩ : SS FM).Td w1 (NoPanic Q .normal)
        obtain ⟨kp, kw⟩ := (nrmF_ok (w := w1) (w0 := w0) (M := M) (E := S1.E) (m := m)).2
        refine hK (⟨S1.T, S1.E, nrmF m, S1.V, S.R⟩ : SS FM) w1 hk ⟨kp.2 (mbk_iff.2 fun p hp => pb p (pm p hp)), ?_, k1.t, k1.tl, kw (mwf_iff.2 fun p hp => pw p (pm p hp)), kp.1 (mlt_iff.2 fun p hp => pl p (pm p hp)), k1.v⟩ (fun w' H' => ?_) (nrmF_ok.1 Hm) ⟨⟨A, hA⟩, ⟨Y, hY⟩⟩
        · show rwf S1.E.length S.R
          rw [hlen]; exact rwf_mono (by omega) hS.r
        · show ROk S1.E w' S.R
          rw [hY]; exact ROk_ext hS.r (hG w' H')
      · cases hm
  · exact hk.elim
/-! ### Maps -/
theorem mapT_spec {P : Program} {t K V : TypeId} {n : Nat} (h : mapT P t = some (K, V, n)) : P.underlying t = some (.map K V) ∧ arrB P K n = true ∧ ∀ w, (zeroValue V).run P w = .ok (.int .i64 0) w := by
  unfold mapT at h
  split at h
  · rename_i K' V' hu
    split at h
    · rename_i n' e hK
      simp only [cond_eq_ite] at h
      split at h
      · rename_i hc
        simp only [Bool.and_eq_true] at hc
        simp only [Option.some.injEq, Prod.mk.injEq] at h
        obtain ⟨rfl, rfl, rfl⟩ := h
        refine ⟨hu, hc.1, fun w => ?_⟩
        have h2 := hc.2
        unfold zi at h2
        split at h2
        · rename_i z hz
          have := of_decide_eq_true h2; subst this
          exact pureRun_spec hz w
        · cases h2
      · cases h
    · cases h
  · cases h
theorem lookM_ok {S : SS FM} {w : World} (hS : S.WF) (H : Hp M w0 w S.md) {i : Nat} {rest : OT} {o : Oper} {v : TV FM} (ho : ops[i]? = some o) (hd : dstOk N o.dst = true) (hg : gst S.T ops o = some .want) (hf : fl i = 1) (hfd : fl.d = no)
    (h : lookM X S o = some v) : v.wf ∧ v.lt S.E.length = true ∧ (WC X.P N ops Q fl rest (putT S.Td o.dst (v.den S.E)) w → WC X.P N ops Q fl (.s i rest) S.Td w) := by
  unfold lookM at h
  split at h
  · rename_i t x k hop
    split at h
    · rename_i K V n hm
      split at h
      · rename_i id ks n' hx hk
        split at h
        · rename_i j id' n0 l hp
          simp only [cond_eq_ite] at h
          split at h
          · rename_i hc
            simp only [Bool.and_eq_true] at hc
            have h1 := beq_n hc.1; have h2 := beq_n hc.2
            subst h1 h2
            simp only [Option.some.injEq] at h; subst h
            refine ⟨⟨trivial, trivial, trivial⟩, rfl, fun hh => wc_val (opT_of (T := S.T) ho hd hg) (by rw [hf]; rfl) (fun a w' ha hw' => ?_) hh⟩
            obtain ⟨p1, p2, p3⟩ := pcAt_spec (E := S.E) hp
            simp only [Pc.id?, Option.some.injEq] at p3; subst p3
            obtain ⟨m1, m2, m3⟩ := mapT_spec hm
            have hl : ∀ p ∈ l, p.1.length = n := mwf_at hS.m p1
            obtain ⟨e1, -, -⟩ := evS_eval hS ha hx
            obtain ⟨e2, q2, -⟩ := evS_eval hS ha hk
            have hks : ks.length = n := q2.1
            have hb : w.heap[bno S.E id']? = some (mObj l) := H.ent p2
            have hkd : KeepD no w w' := by
              rcases hw' with h0 | hk'
              · rw [hf] at h0; cases h0
              · rw [hfd] at hk'; exact hk'
            have hb' : w'.heap[bno S.E id']? = some (mObj l) := by
              rw [hkd.2 _ (Array.getElem?_eq_some_iff.1 hb).1 (fun h => h)]; exact hb
            have e1 : a.eval x = .map (some (bno S.E id')) := e1
            have e2 : a.eval k = .agg (iv .u8 ks).toArray := by rw [e2]; simp [TV.den, SV.den, cden, Sg.den, Sg0.den]
            unfold execOp
            simp only [hop, e1, e2, Sem.run_bind, run_mapLook m1 m2 m3 hl hks hb', Result.andThen_ok, Sem.run_pure]
            rfl
          · cases h
        · cases h
      · cases h
    · cases h
  · cases h
theorem putM_ok {S S' : SS FM} {w : World} (hS : S.WF) (H : Hp M w0 w S.md) {i : Nat} {rest : OT} {o : Oper} {φ : Prop} (ho : ops[i]? = some o) (hd : dstOk N o.dst = true) (hg : gst S.T ops o = some .want) (hf : fl i = 3)
    (h : putM X S o = some (φ, S')) (hφ : φ) : S'.WF ∧ S'.T = S.T ∧ S'.E = S.E ∧ S'.R = S.R ∧ ((∀ w', Hp M w0 w' S'.md → WC X.P N ops Q fl rest S.Td w') → WC X.P N ops Q fl (.s i rest) S.Td w) := by
  unfold putM at h
  split at h
  · rename_i t x k y hop
    split at h
    · rename_i K V n hm hdst
      split at h
      · rename_i id ks n' v hx hk hy
        split at h
        · rename_i j id' n0 l hp
          simp only [cond_eq_ite] at h
          split at h
          · rename_i hc
            simp only [Bool.and_eq_true] at hc
            have h1 := beq_n hc.1; have h2 := beq_n hc.2
            subst h1 h2
            simp only [Option.some.injEq, Prod.mk.injEq] at h
            obtain ⟨rfl, rfl⟩ := h
            obtain ⟨p1, p2, p3⟩ := pcAt_spec (E := S.E) hp
            simp only [Pc.id?, Option.some.injEq] at p3; subst p3
            obtain ⟨m1, m2, m3⟩ := mapT_spec hm
            have hl : ∀ p ∈ l, p.1.length = n := mwf_at hS.m p1
            obtain ⟨N', a0, ha0⟩ := tm_some S.Td
            have hks : ks.length = n := (evS_eval hS ha0 hk).2.1.1
            refine ⟨hS.setm (fun p hp => ?_) (mlt_at hS.ml p1 : Nat.blt id' S.E.length = true) (show isbk S.E id' = true from mbk_at hS.b p1), rfl, rfl, rfl, fun hh => wc_heap (opT_of (T := S.T) ho hd hg) (by rw [hf]; rfl) fun a ha => ?_⟩
            · rcases List.mem_append.1 hp with hp | hp
              · exact hl p hp
              · simp only [List.mem_singleton] at hp; subst hp; exact hks
            · obtain ⟨e1, -, -⟩ := evS_eval hS ha hx
              obtain ⟨e2, -, -⟩ := evS_eval hS ha hk
              obtain ⟨e3, -, -⟩ := evS_eval hS ha hy
              have hb : w.heap[bno S.E id']? = some (mObj l) := H.ent p2
              have hlt : bno S.E id' < w.heap.size := (Array.getElem?_eq_some_iff.1 hb).1
              have e1 : a.eval x = .map (some (bno S.E id')) := e1
              have e2 : a.eval k = .agg (iv .u8 ks).toArray := by rw [e2]; simp [TV.den, SV.den, cden, Sg.den, Sg0.den]
              have e3 : a.eval y = .int .i64 v := e3
              unfold operR execOp
              simp only [hop, e1, e2, e3, Sem.run_bind, run_mapNew m1 m2 hl hks hφ v hb, Result.andThen_ok, Sem.run_pure, uponR]
              rw [hdst]
              refine ⟨fun h => absurd h (by rw [hf]; decide), hh _ ?_ a ha⟩
              have H' := H.put (o' := mObj (l ++ [(ks, v)])) (w' := { w with heap := w.heap.setIfInBounds (bno S.E id') (mObj (l ++ [(ks, v)])) }) p2 rfl rfl rfl (by simp) (by simp [hlt]) (fun j hj => by simp [Array.getElem?_setIfInBounds, Ne.symm hj])
              have e4 : (mden S.E S.m).set j (.bk (bno S.E id') (mObj (l ++ [(ks, v)]))) = mden S.E (S.m.set j (.mp id' n (l ++ [(ks, v)]))) := by rw [mden_set]; rfl
              rw [SS.md, e4] at H'
              exact H'
          · cases h
        · cases h
      · cases h
    · cases h
  · cases h
theorem mkM_ok {S : SS FM} {w : World} (hS : S.WF) (H : Hp M w0 w S.md) {i : Nat} {rest : OT} {o : Oper} {g : Nat → SS FM} (ho : ops[i]? = some o) (hd : dstOk N o.dst = true) (hg : gst S.T ops o = some .want) (hf : Nat.ble 2 (fl i) = true)
    (h : mkM X S o = some g) (hw : ∀ b w', (g b).WF → Ext S (g b) → Hp M w0 w' (g b).md → WC X.P N ops Q fl rest (g b).Td w') : WC X.P N ops Q fl (.s i rest) S.Td w := by
  unfold mkM at h
  split at h
  · rename_i t hop
    obtain ⟨⟨K, V, n⟩, hm, rfl⟩ := Option.map_eq_some_iff.1 h
    refine wc_heap (opT_of (T := S.T) ho hd hg) hf fun a ha => ?_
    have new_at : ∀ b, bno (S.E ++ [.bk b]) S.E.length = b := fun b => by unfold bno; simp
    have new_bk : ∀ b, isbk (S.E ++ [.bk b]) S.E.length = true := fun b => by unfold isbk; simp
    have hlt : Nat.blt S.E.length (S.E.length + 1) = true := Nat.blt_eq.mpr (by omega)
    unfold operR execOp
    simp only [hop, Option.map_none, Sem.run_bind, run_mapMake, Result.andThen_ok, Sem.run_pure, uponR]
    refine ⟨fun _ => ⟨by simp, fun k hk _ => by simp only [Array.getElem?_push]; rw [if_neg (by omega)]⟩, ?_⟩
    have := hw w.heap.size { w with heap := w.heap.push (mObj []) } (add_wf hS trivial hlt ⟨by simp [Pc.wf], trivial⟩ (by simp only [mlt, Pc.lt, List.length_singleton, hlt, Bool.and_self]) (by simp only [mbk, Pc.bkok, new_bk, Bool.and_self])) add_ext (by
      show Hp M w0 _ (mden (S.E ++ [.bk w.heap.size]) (.mp S.E.length n [] :: S.m))
      simp only [mden, Pc.den, new_at, mden_ext hS.ml]
      exact H.new _)
    have this : WC _ _ _ _ _ _ (tden _ (setT S.T o.dst (some _))) _ := this
    rw [tden_setT, tden_ext hS.tl] at this
    simp only [TV.den, SV.den, S0.den, new_at] at this
    exact this _ (ha.putT hd _)
  · cases h
end
end Go.Px
