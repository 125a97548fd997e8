/-
  More rules of this seat's walks: slices that grow, copies, text. No condition beside those that stand in each theorem.
-/
import Derived.Test.YtogpbbgcdeiplaaOpen
import Derived.Laws.IdiomStrings
import Derived.Laws.BytesString
import Derived.Laws.BytesArg
import Derived.Laws.Strings
import Derived.Laws.Runes
set_option linter.all false
namespace Go.Px
open Go.RowKit

section
variable {P : Program} {N : FN} {ops : Array Oper} {Q : Exit → Act → World → Prop} {fl : FL} {T : Tab} {w : World} {i : Nat} {rest : OT}

/-- What a type's cells are. -/
def tyT (P : Program) (e : TypeId) : Option (Nat × Nat × Nat) := match P.info? e with
  | some x => match x.zero with
    | some z => if Nat.beq z.cells.size x.size && Nat.ble 1 x.size && Nat.ble 1 x.bytes then some (x.size, x.bytes, e) else none
    | none => none
  | none => none

theorem tyT_spec {e s b e' : Nat} (h : tyT P e = some (s, b, e')) : ∃ x z, P.info? e = some x ∧ x.zero = some z ∧ x.size = s ∧ x.bytes = b ∧ z.cells.size = s ∧ 0 < s ∧ 0 < b := by
  unfold tyT at h
  split at h
  · rename_i x hx
    split at h
    · rename_i z hz
      split at h
      · rename_i hc
        simp only [Bool.and_eq_true] at hc
        simp only [Option.some.injEq, Prod.mk.injEq] at h
        obtain ⟨rfl, rfl, rfl⟩ := h
        exact ⟨x, z, hx, hz, rfl, rfl, Nat.eq_of_beq_eq_true hc.1.1, Nat.le_of_ble_eq_true hc.1.2, Nat.le_of_ble_eq_true hc.2⟩
      · cases h
    · cases h
  · cases h

/-- A builtin on two slices of one type. -/
def apT (P : Program) (T : Tab) (b : Builtin) (o : Oper) : Option (Option Nat × TypeId × Option (Nat × Nat × Nat) × Value × Value) :=
  match o.op with
  | .call { callee := .builtin b', args := ⟨[x, y]⟩, argTypes := ⟨[t, t']⟩ } =>
    if Nat.beq t t' && (b' == b) then match P.underlying t, evT T x, evT T y with
      | some (.slice e), some u, some v => some (o.dst, t, tyT P e, u, v)
      | _, _, _ => none
    else none
  | _ => none

theorem grow_upd {M : Nat → Prop} {w0 w' : World} {m : Mem} (H : Hp M w0 w m) {k : Nat} {A A' : Option Addr} {n c n' c' e s : Nat} {xs xs' : List Value} (hm : m[k]? = some (.sl A n c xs e s))
    (hown : w'.ownsRow w.heap.size e s (.slice A' n' c') n' xs' ∨ (A' = A ∧ w'.ownsRow 0 e s (.slice A' n' c') n' xs')) (hg : w.grownBy w' (Value.slice A n c).ownBlock) : Hp M w0 w' (m.set k (.sl A' n' c' xs' e s)) := by
  obtain ⟨G, g1, g2, g3⟩ := H.upd hm
  refine g3 w' _ (fun j => G j ∨ (w.heap.size ≤ j ∧ j < w'.heap.size)) hg.os hg.tape hg.output hg.size (fun j hj hG => hg.block j hj fun e => ?_) ⟨?_, fun a ha => ?_⟩ fun j hj => hj
  · cases A with
    | none => simp [Value.ownBlock] at e
    | some a => simp only [Value.ownBlock, Option.some.injEq] at e; exact hG (e ▸ g1.2 a rfl)
  · rcases hown with h | h
    · refine ⟨h.1, ?_⟩
      rcases h.2 with h2 | ⟨g, cap, cur, h3, h4, h5⟩
      · exact .inl h2
      · exact .inr ⟨g, cap, cur, h3, Nat.zero_le _, h5⟩
    · exact h.2
  · rcases hown with h | h
    · rcases h.2 with h2 | ⟨g, cap, cur, h3, h4, h5, -⟩
      · simp only [Value.slice.injEq] at h2; simp [h2.1.1] at ha
      · simp only [Value.slice.injEq] at h3
        rw [h3.1] at ha; cases ha
        exact .inr ⟨h4, lt_of_some h5⟩
    · exact .inl (g1.2 a (h.1 ▸ ha))

theorem Rd.cell {A : Addr} {ys : List Value} (h : Rd w (some A) ys) : ∀ j u, ys[j]? = some u → w.cell? (A.add j) = some u := by
  intro j u hj
  rcases h with h | ⟨b, off, blk, T, fr, hA, h1, h2⟩
  · subst h; simp at hj
  · cases hA
    have hadd : (⟨b, off, none⟩ : Addr).add j = ⟨b, off + j, none⟩ := by unfold Addr.add; split <;> simp_all
    rw [hadd]
    simp only [World.cell?, h1]
    rw [← hj]
    have := h2 j (List.getElem?_eq_some_iff.1 hj).1
    simpa using this

theorem Rd.none_nil {ys : List Value} (h : Rd w none ys) : ys = [] := by
  rcases h with h | ⟨_, _, _, _, _, hA, _⟩
  · exact h
  · cases hA

theorem run_append_none {t ty e : TypeId} {x : TypeInfo} (ht : P.underlying t = some (.slice e)) (hi : P.info? e = some x) {A : Option Addr} {n c cc : Nat} {xs : List Value} (hown : w.ownsRow 0 e x.size (.slice A n c) n xs) :
    (Builtin.append_ #[t, t] ty #[.slice A n c, .slice none 0 cc]).run P w = .ok (.slice A n c) w := by
  rcases hown.2 with ⟨h, h'⟩ | ⟨g, cap, cur, h, _, _, hnc, _⟩
  · simp only [Value.slice.injEq] at h
    obtain ⟨rfl, rfl, rfl⟩ := h
    simp [Builtin.append_, run_underlying ht, sizeOf, typeInfo, hi, Builtin.lenOf, Builtin.firstCells]
  · simp only [Value.slice.injEq] at h
    obtain ⟨rfl, -, rfl⟩ := h
    simp [Builtin.append_, run_underlying ht, sizeOf, typeInfo, hi, Builtin.lenOf, Builtin.firstCells, hnc, storeCells]

/-- A run of append on a slice of the call's own. -/
theorem run_app {M : Nat → Prop} {w0 : World} {m : Mem} (H : Hp M w0 w m) {k : Nat} {A B : Option Addr} {n c mm cc t ty e s by' : Nat} {xs ys : List Value} (hm : m[k]? = some (.sl A n c xs e s)) (ht : P.underlying t = some (.slice e)) (hy : tyT P e = some (s, by', e))
    (hR : Rd w B ys) (hl : ys.length = mm * s) (hfl : ∀ u ∈ ys, u.oneCell' = true) (hb : (n + mm) * by' ≤ 140737488355328) :
    ∃ A' c' w', (Builtin.append_ #[t, t] ty #[.slice A n c, .slice B mm cc]).run P w = .ok (.slice A' (n + mm) c') w' ∧ Hp M w0 w' (m.set k (.sl A' (n + mm) c' (xs ++ ys) e s)) := by
  obtain ⟨x, z, h1, h2, rfl, rfl, h5, h6, h7⟩ := tyT_spec hy
  have h63 : n + mm ≤ maxLen := by
    have : n + mm ≤ (n + mm) * x.bytes := Nat.le_mul_of_pos_right _ h7
    unfold maxLen; omega
  obtain ⟨G, g1, -, -⟩ := H.upd hm
  cases B with
  | none =>
    have hys := hR.none_nil
    subst hys
    have hmm : mm = 0 := by
      rcases Nat.mul_eq_zero.1 hl.symm with h | h
      · exact h
      · omega
    subst hmm
    refine ⟨A, c, w, run_append_none ht h1 g1.1, ?_⟩
    simp only [List.append_nil, Nat.add_zero]
    have := H.conv hm _ fun G hG => hG
    exact this
  | some a =>
    cases A with
    | none =>
      have hn : n = 0 ∧ c = 0 := by
        rcases g1.1.2 with ⟨h, h'⟩ | ⟨g, cap, cur, h, -⟩
        · simp only [Value.slice.injEq] at h; exact ⟨h.2.1, h.2.2⟩
        · simp at h
      obtain ⟨rfl, rfl⟩ := hn
      obtain ⟨v', w', hrun, ho, hg, -⟩ := run_append_own (P := P) w w.heap.size t ty e x z x.size x.bytes ht h1 h2 rfl rfl h5 h6 (.slice none 0 0) 0 xs ⟨g1.1.1, .inl ⟨rfl, rfl⟩⟩ a mm cc ys hl hR.cell hfl h63 hb (Nat.le_refl _)
      have hv : ∃ A' c', v' = .slice A' (0 + mm) c' := by
        rcases ho.2 with ⟨h, h'⟩ | ⟨g, cap, cur, h, -⟩
        · exact ⟨none, 0, by rw [h, h']⟩
        · exact ⟨_, _, h⟩
      obtain ⟨A', c', rfl⟩ := hv
      exact ⟨A', c', w', hrun, grow_upd H hm (.inl ho) hg⟩
    | some A0 =>
      obtain ⟨g, cap, cur, h3, h4, h5', hnc, hcm, hcs, htake⟩ : ∃ g cap cur, Value.slice (some A0) n c = .slice (some ⟨g, 0, none⟩) n cap ∧ 0 ≤ g ∧ w.heap[g]? = some (.cells cur e (0, 0)) ∧ n ≤ cap ∧ cap ≤ maxLen ∧ cur.size = cap * x.size ∧ cur.toList.take (n * x.size) = xs := by
        rcases g1.1.2 with ⟨h, h'⟩ | h
        · simp at h
        · exact h
      simp only [Value.slice.injEq, Option.some.injEq, true_and] at h3
      obtain ⟨rfl, rfl⟩ := h3
      by_cases hroom : n + mm ≤ c
      · obtain ⟨w', hrun, ho, hg⟩ := run_append_fits (P := P) w 0 t ty e x x.size ht h1 rfl g n c xs g1.1 a mm cc ys hl hR.cell hfl hroom
        exact ⟨_, c, w', hrun, grow_upd H hm (.inr ⟨rfl, ho⟩) hg⟩
      · obtain ⟨v', w', hrun, ho, hg, -⟩ := run_append_own (P := P) w 0 t ty e x z x.size x.bytes ht h1 h2 rfl rfl h5 h6 (.slice (some ⟨g, 0, none⟩) n c) n xs g1.1 a mm cc ys hl hR.cell hfl h63 hb (Nat.zero_le _)
        have hr := run_append_grow (P := P) w t ty e x z ht h1 h2 ⟨g, 0, none⟩ n c xs g1.1.1 (g1.1.cells (g := g) rfl) a mm cc ys hl hR.cell (by omega) (by unfold maxLen at h63; omega) (growslice_fits (by omega) hb)
        rw [hr] at hrun
        simp only [Result.ok.injEq] at hrun
        obtain ⟨rfl, rfl⟩ := hrun
        refine ⟨_, _, _, hr, grow_upd H hm (.inl ⟨ho.1, ?_⟩) hg⟩
        rcases ho.2 with h | ⟨g', cap', cur', q3, q4, q5, q6⟩
        · exact .inl h
        · have q3' := q3
          simp only [Value.slice.injEq, Option.some.injEq, Addr.mk.injEq, and_true, true_and] at q3
          exact .inr ⟨g', cap', cur', q3', by omega, q5, q6⟩

theorem wc_app {M : Nat → Prop} {w0 : World} {m : Mem} (H : Hp M w0 w m) (k : Nat) (d : Option Nat) {A B : Option Addr} {n c mm cc t e : Nat} (s by' : Nat) {xs ys : List Value}
    (hop' : ((opT N ops T i).bind (apT P T .append), fl i) = (some (d, t, some (s, by', e), .slice A n c, .slice B mm cc), 3)) (hm : m[k]? = some (.sl A n c xs e s))
    (hR : Rd w B ys) (hl : ys.length = mm * s) (hfl : ∀ u ∈ ys, u.oneCell' = true) (hb : (n + mm) * by' ≤ 140737488355328)
    (h : ∀ A' c' w', Hp M w0 w' (m.set k (.sl A' (n + mm) c' (xs ++ ys) e s)) → WC P N ops Q fl rest (putT T d (.slice A' (n + mm) c')) w') : WC P N ops Q fl (.s i rest) T w := by
  obtain ⟨hop, hf⟩ := Prod.mk.inj hop'
  obtain ⟨o, hq, h2⟩ := Option.bind_eq_some_iff.1 hop
  unfold apT at h2
  split at h2
  · rename_i b' x y t1 t2 hox
    split at h2
    · rename_i hc
      simp only [Bool.and_eq_true] at hc
      have hbb : b' = .append := eq_of_beq hc.2
      have htt := Nat.eq_of_beq_eq_true hc.1
      subst hbb htt
      split at h2
      · rename_i e' u v hu hx hy
        simp only [Option.some.injEq, Prod.mk.injEq] at h2
        obtain ⟨rfl, rfl, hty, rfl, rfl⟩ := h2
        have he : e' = e := by
          unfold tyT at hty
          split at hty
          · split at hty
            · split at hty
              · simp only [Option.some.injEq, Prod.mk.injEq] at hty; exact hty.2.2
              · cases hty
            · cases hty
          · cases hty
        subst he
        refine wc_heap hq (by rw [hf]; rfl) fun a ha => ?_
        obtain ⟨A', c', w', hrun, H'⟩ := run_app (P := P) H (ty := o.type) hm hu hty hR hl hfl hb (cc := cc)
        have hrun' : (execOp a.eval o).run P w = .ok (.value (.slice A' (n + mm) c')) w' := by
          unfold execOp
          simp [hox, resolve, invoke, builtin, evT_spec ha hx, evT_spec ha hy, hrun]
        unfold operR
        rw [hrun']
        exact ⟨fun hh => by omega, h A' c' w' H' _ (ha.putT (opT_spec ha hq).2.1 _)⟩
      · cases h2
    · cases h2
  · cases h2

/-! #### make -/
def mkT (P : Program) (T : Tab) (o : Oper) : Option (Option Nat × Option (Nat × Nat × Nat) × Int × Int) :=
  match o.op with
  | .makeSlice t x y => match P.underlying t, evT T x, evT T y with
    | some (.slice e), some (.int _ l), some (.int _ c) => some (o.dst, tyT P e, l, c)
    | _, _, _ => none
  | _ => none
def zOf (P : Program) (e : TypeId) : List Value := match P.info? e with
  | some x => match x.zero with
    | some z => z.cells.toList
    | none => []
  | none => []
/-- So many zero elements. -/
def zrep (zs : List Value) : Nat → List Value
  | 0 => []
  | n + 1 => zs ++ zrep zs n
theorem zrep_iv (k : IntKind) (n : Nat) : zrep [.int k 0] n = iv k (List.replicate n 0) := by
  induction n with
  | zero => rfl
  | succ n ih => rw [zrep, ih]; rfl
theorem zrep_length (zs : List Value) (n : Nat) : (zrep zs n).length = n * zs.length := by
  induction n with
  | zero => simp [zrep]
  | succ n ih => rw [zrep, List.length_append, ih, Nat.succ_mul]; omega
theorem zrep_get (zs : List Value) (hz : 0 < zs.length) : ∀ (n j : Nat), j < n * zs.length → (zrep zs n)[j]? = zs[j % zs.length]?
  | 0, j, h => by omega
  | n + 1, j, h => by
    rw [zrep]
    by_cases hj : j < zs.length
    · rw [List.getElem?_append_left hj, Nat.mod_eq_of_lt hj]
    · rw [List.getElem?_append_right (by omega), zrep_get zs hz n (j - zs.length) (by rw [Nat.succ_mul] at h; omega), ← Nat.mod_eq_sub_mod (by omega)]

theorem wc_mk {M : Nat → Prop} {w0 : World} {m : Mem} (H : Hp M w0 w m) (d : Option Nat) (n e s by' : Nat) (zs : List Value)
    (hop' : ((opT N ops T i).bind (mkT P T), Nat.ble 2 (fl i), zOf P e) = (some (d, some (s, by', e), (n : Int), (n : Int)), true, zs)) (hb : by' * n ≤ 281474976710656)
    (h : ∀ A w', Hp M w0 w' (.sl A n n (zrep zs n) e s :: m) → WC P N ops Q fl rest (putT T d (.slice A n n)) w') : WC P N ops Q fl (.s i rest) T w := by
  simp only [Prod.mk.injEq] at hop'
  obtain ⟨hop, hf, hz⟩ := hop'
  obtain ⟨o, hq, h2⟩ := Option.bind_eq_some_iff.1 hop
  unfold mkT at h2
  split at h2
  · rename_i t x y hox
    split at h2
    · rename_i e' kl l kc c hu hx hy
      simp only [Option.some.injEq, Prod.mk.injEq] at h2
      obtain ⟨rfl, hty, rfl, rfl⟩ := h2
      obtain ⟨xx, z, h1, h2, h3, h4, h5, h6, h7⟩ := tyT_spec hty
      have he : e' = e := by
        unfold tyT at hty
        split at hty
        · split at hty
          · split at hty
            · simp only [Option.some.injEq, Prod.mk.injEq] at hty; exact hty.2.2
            · cases hty
          · cases hty
        · cases hty
      subst he h3 h4
      have hz' : zs = z.cells.toList := by rw [← hz]; unfold zOf; simp [h1, h2]
      have hnn : n ≤ 281474976710656 := Nat.le_trans (Nat.le_mul_of_pos_left _ h7) hb
      refine wc_heap hq hf fun a ha => ?_
      obtain ⟨w', hrun, ho, hg⟩ := run_make_full (P := P) w 0 t e' xx z xx.size hu h1 h2 rfl kl kc n hb (by unfold maxLen; omega) (Nat.zero_le _)
      have hrun' : (execOp a.eval o).run P w = .ok (.value (.slice (some ⟨w.heap.size, 0, none⟩) n n)) w' := by
        unfold execOp
        simp [hox, evT_spec ha hx, evT_spec ha hy, hrun]
      unfold operR
      rw [hrun']
      have hzz : (madeCells z.cells (n * xx.size)).toList = zrep zs n := by
        apply List.ext_getElem?
        intro j
        have hl : (madeCells z.cells (n * xx.size)).toList.length = n * xx.size := by simp [madeCells]
        have hzl : zs.length = xx.size := by rw [hz']; simpa using h5
        by_cases hj : j < n * xx.size
        · rw [zrep_get zs (by omega) n j (by rw [hzl]; exact hj)]
          simp only [madeCells, hz', Array.getElem?_toList, h5, Array.length_toList]
          have hj' : j % z.cells.size < z.cells.size := Nat.mod_lt _ (by omega)
          have hlt : j % xx.size < z.cells.size := by rw [h5]; exact Nat.mod_lt _ h6
          simp [hj, getElem!_pos, hlt]
        · rw [List.getElem?_eq_none (by omega), List.getElem?_eq_none (by rw [zrep_length, hzl]; omega)]
      rw [hzz] at ho
      refine ⟨fun _ => ⟨hg.size, fun k hk _ => hg.block k hk (by simp)⟩, h _ w' ?_ _ (ha.putT (opT_spec ha hq).2.1 _)⟩
      refine H.add (mc := [_]) hg.os hg.tape hg.output hg.size (fun k hk => hg.block k hk (by simp)) ⟨fun k => k = w.heap.size, ⟨ho, fun a ha => by cases ha; rfl⟩, fun k hk => ?_, trivial⟩
      subst hk
      refine ⟨Nat.le_refl _, ?_⟩
      rcases ho.2 with ⟨hh, _⟩ | ⟨g, cap, cur, q3, q4, q5, q6⟩
      · simp at hh
      · simp only [Value.slice.injEq, Option.some.injEq, Addr.mk.injEq, and_true, true_and] at q3
        rw [q3.1]; exact lt_of_some q5
    · cases h2
  · cases h2

/-! #### Elements of a slice that is only known to be readable, or the call's own -/
def adr (A : Option Addr) (off : Nat) : Addr := (A.getD ⟨0, 0, none⟩).add off
theorem adr_some (b off o : Nat) : adr (some ⟨b, off, none⟩) o = ⟨b, off + o, none⟩ := by
  unfold adr Addr.add; simp

theorem Rd.isSome {A : Option Addr} {cs : List Value} (h : Rd w A cs) (h0 : 0 < cs.length) : A.isSome = true := by
  rcases h with h | ⟨b, off, blk, T, fr, rfl, _⟩
  · subst h; simp at h0
  · rfl

/-- A field of an element. -/
theorem adr_add (A : Option Addr) (x y : Nat) : (adr A x).add y = adr A (x + y) := by
  unfold adr; exact addr_add _ _ _

theorem Ld.rd {A : Option Addr} {cs : List Value} (h : Rd w A cs) (ty off : Nat) (v : Value) (hv : (aggB P ty = some false ∧ cs[off]? = some v) ∨ (∃ n, aggB P ty = some true ∧ sizeB P ty = some n ∧ off + n ≤ cs.length ∧ v = .agg ((cs.drop off).take n).toArray)) :
    ∀ w', KeepD no w w' → (loadVar ty (adr A off)).run P w' = .ok v w' := by
  rcases h with h | ⟨b, o, blk, T, fr, rfl, h1, h2⟩
  · subst h
    rcases hv with ⟨g1, g2⟩ | ⟨n, g1, g2, g3, rfl⟩
    · simp at g2
    · intro w' k
      have : n = 0 := by simp at g3; exact g3.2
      subst this
      unfold loadVar
      simp [Sem.run_bind, pureRun_spec g1 w', pureRun_spec g2 w', loadCells, loadCellsFrom]
  · rw [adr_some]
    rcases hv with ⟨g1, g2⟩ | ⟨n, g1, g2, g3, rfl⟩
    · exact Ld.one h1 g1 (by rw [h2 off (List.getElem?_eq_some_iff.1 g2).1]; exact g2)
    · refine Ld.agg h1 g1 g2 (by simp; omega) fun j hj => ?_
      rw [Nat.add_assoc, h2 _ (by omega), List.getElem?_take, if_pos hj, List.getElem?_drop]

theorem wc_ldA {A : Option Addr} {cs : List Value} (hR : Rd w A cs) (d : Option Nat) (ty off : Nat) (v : Value) (hop' : ((opT N ops T i).bind (ldT T), fl i) = (some (d, ty, adr A off), 1))
    (hv : (aggB P ty = some false ∧ cs[off]? = some v) ∨ (∃ n, aggB P ty = some true ∧ sizeB P ty = some n ∧ off + n ≤ cs.length ∧ v = .agg ((cs.drop off).take n).toArray))
    (h : WC P N ops Q fl rest (putT T d v) w) (hd : fl.d = no := by rfl) : WC P N ops Q fl (.s i rest) T w := by
  obtain ⟨hop, hf⟩ := Prod.mk.inj hop'
  obtain ⟨o, ho, h2⟩ := Option.bind_eq_some_iff.1 hop
  unfold ldT at h2
  split at h2
  · rename_i ty' x hox
    split at h2
    · rename_i a' hx
      simp only [Option.some.injEq, Prod.mk.injEq] at h2
      obtain ⟨rfl, rfl, rfl⟩ := h2
      refine wc_val ho (by rw [hf]; rfl) (fun a w' ha hw' => ?_) h
      have hk : KeepD no w w' := by rcases hw' with h0 | hk; (· omega); rw [hd] at hk; exact hk
      unfold execOp
      simp only [hox, evT_spec ha hx, Instr.loadAt, Instr.sureAddr, Sem.run_bind, Sem.run_pure, Result.andThen_ok, Ld.rd hR ty' off v hv w' hk]
    · cases h2
  · cases h2

theorem take_blit {xs : List Value} (sp vs : List Value) (off : Nat) (h : off + vs.length ≤ xs.length) : (blit (xs ++ sp) off vs).take xs.length = blit xs off vs := by
  have h1 : blit (xs ++ sp) off vs = blit xs off vs ++ sp := by
    unfold blit
    rw [List.take_append_of_le_length (by omega), List.drop_append_of_le_length h]
    simp only [List.append_assoc]
  have h2 : (blit xs off vs).length = xs.length := by simp only [blit, List.length_append, List.length_take, List.length_drop]; omega
  rw [h1, ← h2, List.take_left]

theorem run_stS {M : Nat → Prop} {w0 : World} {m : Mem} (H : Hp M w0 w m) (k : Nat) {A : Option Addr} {n c : Nat} {xs : List Value} {e s off ty : Nat} {v : Value} (hm : m[k]? = some (.sl A n c xs e s))
    (hn : sizeB P ty = some v.cells.size) (hpos : 0 < xs.length) (hl : off + v.cells.size ≤ xs.length) (hfl : ∀ u ∈ v.cells.toList, u.oneCell' = true) :
    ∃ w', (storeVar ty (adr A off) v).run P w = .ok () w' ∧ Hp M w0 w' (m.set k (.sl A n c (blit xs off v.cells.toList) e s)) := by
  obtain ⟨G, g1, g2, g3⟩ := H.upd hm
  have hlen := g1.1.1
  rcases g1.1.2 with ⟨h, h'⟩ | ⟨g, cap, cur, h3, h4, h5, h6, h7, h8, h9⟩
  · rw [h', Nat.zero_mul] at hlen; omega
  simp only [Value.slice.injEq, true_and] at h3
  obtain ⟨rfl, rfl⟩ := h3
  have hcl : cur.toList.length = c * s := by simpa using h8
  have hxl : xs.length ≤ cur.toList.length := by rw [hlen, hcl]; exact Nat.mul_le_mul_right _ h6
  have hst := run_storeCells_at P g off e v.cells.toList 0 cur w h5 (by simp at hxl ⊢; omega) hfl
  simp only [Nat.add_zero] at hst
  rw [adr_some, Nat.zero_add]
  refine ⟨w.setRow g (cur.toList.take off ++ v.cells.toList ++ cur.toList.drop (off + v.cells.toList.length)).toArray, ?_, g3 _ _ G rfl rfl rfl (by simp) (fun j _ hj => ?_) ⟨⟨?_, .inr ⟨g, c, _, rfl, h4, setRow_heap w g cur _ e _ h5, h6, h7, ?_, ?_⟩⟩, g1.2⟩ fun j hj => .inl hj⟩
  · unfold storeVar
    rw [Sem.run_bind, pureRun_spec hn w]
    simp only [Result.andThen_ok, ne_eq, not_true_eq_false, if_false]
    simpa using hst
  · have : j ≠ g := fun e => hj (e ▸ g1.2 _ rfl)
    simp [World.setRow, Array.getElem?_modify, Ne.symm this]
  · simp only [blit, List.length_append, List.length_take, List.length_drop, Array.length_toList]; omega
  · simp only [List.size_toArray, List.length_append, List.length_take, List.length_drop, Array.length_toList] at hcl hxl ⊢; omega
  · rw [← hlen]
    have hc : cur.toList = xs ++ cur.toList.drop (n * s) := by rw [← h9, List.take_append_drop]
    have := take_blit (xs := xs) (cur.toList.drop (n * s)) v.cells.toList off (by simpa using hl)
    rw [← hc] at this
    exact this

theorem wc_stS {M : Nat → Prop} {w0 : World} {m : Mem} (H : Hp M w0 w m) (k : Nat) {A : Option Addr} {nn c e s off : Nat} {xs xs' vs : List Value} (ty : TypeId) (v : Value)
    (n : Nat) (hop' : ((opT N ops T i).bind (stT T), fl i, sizeB P ty) = (some (ty, adr A off, v), 3, some n)) (hvs : v.cells = vs.toArray) (hm : m[k]? = some (.sl A nn c xs e s)) (hn1 : vs.length = n) (hpos : 0 < xs.length)
    (hl : off + n ≤ xs.length) (hfl : ∀ u ∈ vs, u.oneCell' = true) (hcs : blit xs off vs = xs')
    (h : ∀ w', Hp M w0 w' (m.set k (.sl A nn c xs' e s)) → WC P N ops Q fl rest T w') : WC P N ops Q fl (.s i rest) T w := by
  simp only [Prod.mk.injEq] at hop'
  obtain ⟨hop, hf, hn0⟩ := hop'
  have hsz : v.cells.size = n := by rw [hvs]; simpa using hn1
  have hls : v.cells.toList = vs := by rw [hvs]
  have hn : sizeB P ty = some v.cells.size := by rw [hsz]; exact hn0
  obtain ⟨o, ho, h2⟩ := Option.bind_eq_some_iff.1 hop
  unfold stT at h2
  split at h2
  · rename_i ty' x y hox hdst
    split at h2
    · rename_i a' v' hx hy
      simp only [Option.some.injEq, Prod.mk.injEq] at h2
      obtain ⟨rfl, rfl, rfl⟩ := h2
      refine wc_heap ho (by rw [hf]; rfl) fun a ha => ?_
      obtain ⟨w', hw, H'⟩ := run_stS (P := P) H k (off := off) hm hn hpos (by rw [hsz]; exact hl) (by rw [hls]; exact hfl)
      rw [hls] at H'
      have hrun : (execOp a.eval o).run P w = .ok .skip w' := by
        unfold execOp
        simp only [hox, evT_spec ha hx, evT_spec ha hy, Instr.storeAt, Instr.sureAddr, Sem.run_bind, Sem.run_pure, Result.andThen_ok, hw]
      unfold operR
      rw [hrun]
      subst hcs
      refine ⟨fun hh => by omega, ?_⟩
      rw [hdst]
      exact h w' H' _ ha
    · cases h2
  · cases h2


/-- A store that may be told of as one of class 2. -/
theorem wc_stD {M : Nat → Prop} {w0 : World} {m : Mem} (H : Hp M w0 w m) (k : Nat) {b off Tb : Nat} {cs cs' vs : List Value} (ty : TypeId) (v : Value)
    (n : Nat) (hop' : ((opT N ops T i).bind (stT T), fl i, sizeB P ty) = (some (ty, ⟨b, off, none⟩, v), 2, some n)) (hd : fl.d b) (hvs : v.cells = vs.toArray) (hm : m[k]? = some (.bk b (row cs Tb))) (hn1 : vs.length = n)
    (hl : off + n ≤ cs.length) (hfl : ∀ u ∈ vs, u.oneCell' = true) (hcs : blit cs off vs = cs')
    (h : ∀ w', Hp M w0 w' (m.set k (.bk b (row cs' Tb))) → WC P N ops Q fl rest T w') : WC P N ops Q fl (.s i rest) T w := by
  simp only [Prod.mk.injEq] at hop'
  obtain ⟨hop, hf, hn0⟩ := hop'
  have hsz : v.cells.size = n := by rw [hvs]; simpa using hn1
  have hls : v.cells.toList = vs := by rw [hvs]
  have hn : sizeB P ty = some v.cells.size := by rw [hsz]; exact hn0
  obtain ⟨o, ho, h2⟩ := Option.bind_eq_some_iff.1 hop
  unfold stT at h2
  split at h2
  · rename_i ty' x y hox hdst
    split at h2
    · rename_i a' v' hx hy
      simp only [Option.some.injEq, Prod.mk.injEq] at h2
      obtain ⟨rfl, rfl, rfl⟩ := h2
      refine wc_heap ho (by rw [hf]; rfl) fun a ha => ?_
      have hb := H.ent hm
      have hst := run_storeCells_at P b off Tb v'.cells.toList 0 cs.toArray w hb (by rw [hls]; simpa [hn1] using hl) (by rw [hls]; exact hfl)
      simp only [Nat.add_zero] at hst
      have H' := H.put (o' := row (blit cs off v'.cells.toList) Tb) (w' := w.setRow b (cs.take off ++ v'.cells.toList ++ cs.drop (off + v'.cells.toList.length)).toArray) hm rfl rfl rfl (size_setRow _ _ _)
        (by simpa [blit, row] using setRow_heap w b cs.toArray (blit cs off v'.cells.toList).toArray Tb (0, 0) hb) (fun j hj => by simp [World.setRow, Array.getElem?_modify, Ne.symm hj])
      rw [hls] at H'
      have hw : (storeVar ty' ⟨b, off, none⟩ v').run P w = .ok () (w.setRow b (cs.take off ++ v'.cells.toList ++ cs.drop (off + v'.cells.toList.length)).toArray) := by
        unfold storeVar
        rw [Sem.run_bind, pureRun_spec hn w]
        simp only [Result.andThen_ok, ne_eq, not_true_eq_false, if_false]
        simpa using hst
      have hrun : (execOp a.eval o).run P w = .ok .skip (w.setRow b (cs.take off ++ v'.cells.toList ++ cs.drop (off + v'.cells.toList.length)).toArray) := by
        unfold execOp
        simp only [hox, evT_spec ha hx, evT_spec ha hy, Instr.storeAt, Instr.sureAddr, Sem.run_bind, Sem.run_pure, Result.andThen_ok, hw]
      unfold operR
      rw [hrun]
      subst hcs
      refine ⟨fun _ => ⟨by simp, fun j _ hj => ?_⟩, ?_⟩
      · have : j ≠ b := fun e => hj (e ▸ hd)
        simp [World.setRow, Array.getElem?_modify, Ne.symm this]
      · rw [hdst, hls]
        exact h _ H' _ ha
    · cases h2
  · cases h2

/-! #### copy -/
theorem run_cp {M : Nat → Prop} {w0 : World} {m : Mem} (H : Hp M w0 w m) (k : Nat) {b off n c mm cc e t ty s by' Tb : Nat} {B : Option Addr} {cs ys : List Value} (hm : m[k]? = some (.bk b (row cs Tb))) (ht : P.underlying t = some (.slice e)) (hy : tyT P e = some (s, by', e))
    (hR : Rd w B ys) (hl : ys.length = mm * s) (hfl : ∀ u ∈ ys, u.oneCell' = true) (hroom : off + (min mm n) * s ≤ cs.length) :
    ∃ w', (Builtin.copy_ #[t, t] ty #[.slice (some ⟨b, off, none⟩) n c, .slice B mm cc]).run P w = .ok (.int .i64 (min mm n : Nat)) w' ∧ Hp M w0 w' (m.set k (.bk b (row (blit cs off (ys.take (min mm n * s))) Tb))) := by
  obtain ⟨x, z, h1, h2, rfl, rfl, h5, h6, h7⟩ := tyT_spec hy
  have hb := H.ent hm
  have hle : min mm n * x.size ≤ ys.length := by rw [hl]; exact Nat.mul_le_mul_right _ (Nat.min_le_left _ _)
  have htl : (ys.take (min mm n * x.size)).length = min mm n * x.size := by rw [List.length_take]; omega
  have hf : (Builtin.firstCells x.size (min mm n) (.slice B mm cc)).run P w = .ok (ys.take (min mm n * x.size)).toArray w := by
    cases B with
    | none =>
      have := hR.none_nil
      subst this
      simp [Builtin.firstCells]
    | some a =>
      exact run_firstCells_some (P := P) w x.size (min mm n) a mm cc _ htl fun j u hj => hR.cell j u (by
        rw [List.getElem?_take] at hj
        split at hj
        · exact hj
        · cases hj)
  have hst := run_storeCells_at P b off Tb (ys.take (min mm n * x.size)) 0 cs.toArray w hb (by rw [htl]; simpa using hroom) (fun u hu => hfl u (List.mem_of_mem_take hu))
  simp only [Nat.add_zero] at hst
  refine ⟨w.setRow b (cs.take off ++ ys.take (min mm n * x.size) ++ cs.drop (off + (ys.take (min mm n * x.size)).length)).toArray, ?_, H.put (o' := row (blit cs off (ys.take (min mm n * x.size))) Tb) hm rfl rfl rfl (size_setRow _ _ _) ?_ (fun j hj => ?_)⟩
  · simp only [Builtin.copy_]
    simp [run_underlying ht, Builtin.lenOf, sizeOf, typeInfo, h1, hst, goInt, show Nat.min mm n = min mm n from rfl, hf]
  · have := setRow_heap w b cs.toArray (blit cs off (ys.take (min mm n * x.size))).toArray Tb (0, 0) hb
    simpa [blit, row] using this
  · simp [World.setRow, Array.getElem?_modify, Ne.symm hj]

/-! #### Text -/
/-- Bytes as a text. -/
def bsT (P : Program) (T : Tab) (o : Oper) : Option (Option Nat × Value) :=
  match o.op with
  | .convert src dst x => match P.underlying src, P.underlying dst, evT T x with
    | some (.slice e), some .string, some v => (match P.underlying e with
      | some (.int .u8) => some (o.dst, v)
      | _ => none)
    | _, _, _ => none
  | _ => none

theorem wc_bs {A : Option Addr} {n c : Nat} (d : Option Nat) (l : List Int) (hop' : ((opT N ops T i).bind (bsT P T), fl i) = (some (d, .slice A n c), 1)) (hR : Rd w A (iv .u8 l)) (hl : l.length = n)
    (h : WC P N ops Q fl rest (putT T d (.string (strOfNums l))) w) (hdd : fl.d = no := by rfl) : WC P N ops Q fl (.s i rest) T w := by
  obtain ⟨hop, hf⟩ := Prod.mk.inj hop'
  obtain ⟨o, hq, h2⟩ := Option.bind_eq_some_iff.1 hop
  unfold bsT at h2
  split at h2
  · rename_i src dst x hox
    split at h2
    · rename_i e v hs hd hx
      split at h2
      · rename_i he
        simp only [Option.some.injEq, Prod.mk.injEq] at h2
        obtain ⟨rfl, rfl⟩ := h2
        refine wc_val hq (by rw [hf]; rfl) (fun a w' ha hw' => ?_) h
        have hk : KeepD no w w' := by rcases hw' with h0 | hk; (· omega); rw [hdd] at hk; exact hk
        have hR' := hR.keep ⟨hk.1, fun k hlt => hk.2 k hlt fun h => h⟩
        unfold execOp
        simp only [hox, evT_spec ha hx]
        rcases hR' with hn | ⟨b, off, blk, T', fr, rfl, h1, h2⟩
        · have hl0 : l = [] := by simpa [iv] using hn
          subst hl0
          simp at hl
          subst hl
          cases A with
          | none => simp [Sem.run_bind, run_convert_bytes_nil w' src e hs he 0 c dst hd]; rfl
          | some a0 =>
            rw [Sem.run_bind, run_convert_bytes_string w' src dst e _ 0 c hs he hd, run_bytesToString w' a0 0 c [] (by simp [loadCells, loadCellsFrom])]
            simp [strOfNums]
            rfl
        · have := run_convert_bytes_arg (P := P) w' src e hs he b off n c l hl (fun j hj => by
            rw [cell_blk h1, h2 j (by simp [iv]; omega), iv_get (by omega)]) dst hd
          simp [Sem.run_bind, this]
      · cases h2
    · cases h2
  · cases h2

theorem strOfNums_inj {a b : List Int} (ha : ∀ x ∈ a, 0 ≤ x ∧ x < 256) (hb : ∀ x ∈ b, 0 ≤ x ∧ x < 256) (h : (strOfNums a).data.toList = (strOfNums b).data.toList) : a = b := by
  simp only [strOfNums_data] at h
  have key : ∀ (l : List Int), (∀ x ∈ l, 0 ≤ x ∧ x < 256) → (l.map fun n => UInt8.ofNat n.toNat).map (fun u => (u.toNat : Int)) = l := by
    intro l hl
    rw [List.map_map]
    conv => rhs; rw [← List.map_id l]
    apply List.map_congr_left
    intro x hx
    have := hl x hx
    simp
    omega
  rw [← key a ha, ← key b hb, h]

theorem toList_beq (a b : ByteArray) : (a.toList == b.toList) = decide (a.data.toList = b.data.toList) := by
  rw [ByteArray.toList_eq a, ByteArray.toList_eq b]
  by_cases h : a.data.toList = b.data.toList
  · simp [h]
  · simp only [h, decide_false, beq_eq_false_iff_ne, ne_eq, not_false_eq_true]

theorem strOfNums_get {l : List Int} {n : Nat} (h : n < l.length) (hl : 0 ≤ l.getD n 0 ∧ l.getD n 0 < 256) : ∃ c : UInt8, (strOfNums l)[n]? = some c ∧ (c.toNat : Int) = l.getD n 0 := by
  refine ⟨UInt8.ofNat (l.getD n 0).toNat, ?_, ?_⟩
  · rw [ByteArray.getElem?_lt' _ _ (by rw [strOfNums_size]; exact h)]
    congr 1
    simp only [strOfNums, ByteArray.getElem_eq_getElem_data]
    simp [List.getD_eq_getElem?_getD, h]
  · generalize l.getD n 0 = x at hl
    simp; omega


theorem strOfNums_append (a b : List Int) : strOfNums a ++ strOfNums b = strOfNums (a ++ b) := by
  apply ByteArray.ext
  simp [strOfNums, ByteArray.data_append]

theorem Rd.part {A : Option Addr} {k : IntKind} {l : List Int} (h : Rd w A (iv k l)) (lo m n : Nat) (h1 : lo + n ≤ m) : Rd w (Go.Px.slA A lo m 1) (iv k ((l.drop lo).take n)) := by
  refine h.slA (k := n) (by omega) ?_ fun e => ?_
  · simp [iv, List.map_drop, List.map_take]
  · have : n = 0 := by omega
    subst this
    simp [iv]

theorem Rd.pre {A : Option Addr} {k : IntKind} {l : List Int} (h : Rd w A (iv k l)) (n : Nat) : Rd w A (iv k (l.take n)) := by
  have : iv k l = iv k (l.take n) ++ iv k (l.drop n) := by simp [iv, ← List.map_append]
  rw [this] at h
  exact h.left
end
/-! #### Plain records compare by their cells -/
def kd : Value → Option CK
  | .int k _ => some (.int k)
  | .bool _ => some .bool
  | _ => none

def isN (o : Option Nat) (n : Nat) : Bool := match o with | some x => Nat.beq x n | none => false
theorem isN_spec {o : Option Nat} {n : Nat} (h : isN o n = true) : o = some n := by
  unfold isN at h
  split at h
  · rw [Nat.eq_of_beq_eq_true h]
  · cases h

def eqF (P : Program) (g : TypeId → Option (List CK)) : List Field → Nat → Option (List CK)
  | [], _ => some []
  | f :: r, o => if f.name != "_" && Nat.beq f.offset o then match g f.type with
      | some ks => if Nat.ble 1 ks.length && isN (sizeB P f.type) ks.length then (eqF P g r (o + ks.length)).map (ks ++ ·) else none
      | none => none
    else none

def isB (o : Option Bool) (b : Bool) : Bool := match o with | some x => x == b | none => false
theorem isB_spec {o : Option Bool} {b : Bool} (h : isB o b = true) : o = some b := by
  unfold isB at h
  split at h
  · simpa using h
  · cases h

def eqK (P : Program) : Nat → TypeId → Option (List CK)
  | 0, _ => none
  | n + 1, t => match P.underlying t with
    | some .bool => if isB (aggB P t) false then some [.bool] else none
    | some (.int k) => if isB (aggB P t) false then some [.int k] else none
    | some (.array m e) => match eqK P n e with
      | some ks => if Nat.ble 1 ks.length && (P.info? e).isSome && Nat.beq (P.cellsOf e) ks.length && isN (sizeB P e) ks.length && isB (aggB P t) true then some (List.replicate m ks).flatten else none
      | none => none
    | some (.struct fs) => if !P.stoodInHeld t && isB (aggB P t) true then eqF P (eqK P n) fs.toList 0 else none
    | _ => none

/-- The value that so many cells are, of a type. -/
def vo (P : Program) (t : TypeId) (l : List Value) : Value := match aggB P t with
  | some true => .agg l.toArray
  | _ => l.headD undef

theorem run_part_vo {P : Program} {e off s : Nat} {g : Bool} {xs : List Value} (w : World) (hg : aggB P e = some g) (hs : sizeB P e = some s) (hl : off + s ≤ xs.length) (h1 : g = false → s = 1) :
    (part e xs.toArray off).run P w = .ok (vo P e ((xs.drop off).take s)) w := by
  unfold part vo
  rw [Sem.run_bind, pureRun_spec hg w, hg]
  cases g with
  | true => simp [Sem.run_bind, pureRun_spec hs w]
  | false =>
    have := h1 rfl
    subst this
    have hlt : off < xs.length := by omega
    simp only [Result.andThen_ok, Bool.false_eq_true, if_false]
    have hd : xs.drop off = xs[off] :: xs.drop (off + 1) := List.drop_eq_getElem_cons hlt
    rw [hd, List.take_succ_cons]
    simp [hlt]

theorem app_iff {α : Type} {a b c d : List α} (h : a.length = c.length) : a ++ b = c ++ d ↔ a = c ∧ b = d := by
  constructor
  · intro e; exact List.append_inj e h
  · rintro ⟨rfl, rfl⟩; rfl

theorem iv_inj {k : IntKind} {a b : List Int} : iv k a = iv k b ↔ a = b := by
  constructor
  · intro h
    unfold iv at h
    exact (List.map_inj_right (fun x y e => by simpa using e)).1 h
  · rintro rfl; rfl

theorem eqK_agg {P : Program} : ∀ {n t : Nat} {ks : List CK}, eqK P n t = some ks → ∃ g, aggB P t = some g ∧ (g = false → ks.length = 1)
  | 0, _, _, h => by simp [eqK] at h
  | n + 1, t, ks, h => by
    unfold eqK at h
    split at h
    · split at h
      · rename_i hb; simp only [Option.some.injEq] at h; subst h; exact ⟨_, isB_spec hb, by simp⟩
      · cases h
    · split at h
      · rename_i hb; simp only [Option.some.injEq] at h; subst h; exact ⟨_, isB_spec hb, by simp⟩
      · cases h
    · split at h
      · split at h
        · rename_i hb
          simp only [Bool.and_eq_true] at hb
          exact ⟨_, isB_spec hb.2, by simp⟩
        · cases h
      · cases h
    · split at h
      · rename_i hb
        simp only [Bool.and_eq_true] at hb
        exact ⟨_, isB_spec hb.2, by simp⟩
      · cases h
    · cases h

theorem kd_one {k : CK} {cs : List Value} (h : cs.map kd = [k].map some) : ∃ c, cs = [c] ∧ kd c = some k := by
  match cs, h with
  | [c], h => exact ⟨c, rfl, by simpa using h⟩
  | [], h => simp at h
  | _ :: _ :: _, h => simp at h

def EqB (P : Program) (d : Nat) (t : TypeId) (a b : List Value) : Prop := ∀ (D : Nat) (w : World), ∃ c, (Op.equalIn (D + d) t (vo P t a) (vo P t b)).run P w = .ok c w ∧ (c = true ↔ a = b)

theorem eqF_spec {P : Program} {d : Nat} {g : TypeId → Option (List CK)} (hg : ∀ t ks, g t = some ks → (∃ x, aggB P t = some x ∧ (x = false → ks.length = 1)) ∧ ∀ a b, a.map kd = ks.map some → b.map kd = ks.map some → EqB P d t a b) :
    ∀ {fs : List Field} {o : Nat} {ks : List CK} (a b pa pb : List Value), eqF P g fs o = some ks → pa.length = o → pb.length = o → a.map kd = ks.map some → b.map kd = ks.map some →
      ∀ (D : Nat) (w : World), ∃ c, (Op.eqFields (D + d) (pa ++ a).toArray (pb ++ b).toArray fs).run P w = .ok c w ∧ (c = true ↔ a = b)
  | [], o, ks, a, b, pa, pb, h, h1, h2, h3, h4, D, w => by
    simp only [eqF, Option.some.injEq] at h
    subst h
    simp at h3 h4
    subst h3 h4
    exact ⟨true, by simp [Op.eqFields], by simp⟩
  | f :: fs, o, ks, a, b, pa, pb, h, h1, h2, h3, h4, D, w => by
    unfold eqF at h
    split at h
    · rename_i hc
      simp only [Bool.and_eq_true] at hc
      have ho := Nat.eq_of_beq_eq_true hc.2
      split at h
      · rename_i k1 hk1
        split at h
        · rename_i hc2
          simp only [Bool.and_eq_true] at hc2
          obtain ⟨k2, hk2, rfl⟩ := Option.map_eq_some_iff.1 h
          obtain ⟨⟨x, hx, hx1⟩, hE⟩ := hg _ _ hk1
          have hs : sizeB P f.type = some k1.length := isN_spec hc2.2
          rw [List.map_append] at h3 h4
          obtain ⟨a1, a2, rfl, ha1, ha2⟩ := List.map_eq_append_iff.1 h3
          obtain ⟨b1, b2, rfl, hb1, hb2⟩ := List.map_eq_append_iff.1 h4
          have la : a1.length = k1.length := by have := congrArg List.length ha1; simpa using this
          have lb : b1.length = k1.length := by have := congrArg List.length hb1; simpa using this
          have p1 := run_part_vo (P := P) (off := f.offset) (xs := pa ++ (a1 ++ a2)) w hx hs (by simp; omega) hx1
          have p2 := run_part_vo (P := P) (off := f.offset) (xs := pb ++ (b1 ++ b2)) w hx hs (by simp; omega) hx1
          have d1 : ((pa ++ (a1 ++ a2)).drop f.offset).take k1.length = a1 := by rw [ho, ← h1, List.drop_left, ← la, List.take_left]
          have d2 : ((pb ++ (b1 ++ b2)).drop f.offset).take k1.length = b1 := by rw [ho, ← h2, List.drop_left, ← lb, List.take_left]
          rw [d1] at p1
          rw [d2] at p2
          obtain ⟨c1, e1, e2⟩ := hE a1 b1 ha1 hb1 D w
          have hname : f.name ≠ "_" := by simpa using hc.1
          simp only [Op.eqFields, ne_eq, hname, not_false_eq_true, if_true, Sem.run_bind, p1, p2, e1, Result.andThen_ok]
          rw [app_iff (by omega)]
          cases c1 with
          | false => exact ⟨false, by simp, by simp at e2; simp [e2]⟩
          | true =>
            obtain ⟨c, r1, r2⟩ := eqF_spec hg a2 b2 (pa ++ a1) (pb ++ b1) hk2 (by simp; omega) (by simp; omega) ha2 hb2 D w
            simp only [List.append_assoc] at r1
            refine ⟨c, by simpa using r1, ?_⟩
            simp at e2
            simp [e2, r2]
        · cases h
      · cases h
    · cases h

theorem eqK_spec {P : Program} : ∀ (n : Nat) {t : Nat} {ks : List CK}, eqK P n t = some ks → ∀ a b, a.map kd = ks.map some → b.map kd = ks.map some → EqB P n t a b
  | 0, _, _, h, _, _, _, _ => by simp [eqK] at h
  | n + 1, t, ks, h, a, b, ha, hb => by
    intro D w
    have hh := h
    unfold eqK at h
    split at h
    · rename_i hu
      split at h
      · rename_i hg
        simp only [Option.some.injEq] at h; subst h
        obtain ⟨x, rfl, hx⟩ := kd_one ha
        obtain ⟨y, rfl, hy⟩ := kd_one hb
        have hg := isB_spec hg
        cases x <;> simp [kd] at hx
        cases y <;> simp [kd] at hy
        rename_i x y
        refine ⟨x == y, ?_, by simp⟩
        simp only [vo, hg, List.headD_cons]
        exact run_equalIn_bool' w (D + n) t x y hu
      · cases h
    · rename_i k hu
      split at h
      · rename_i hg
        simp only [Option.some.injEq] at h; subst h
        obtain ⟨x, rfl, hx⟩ := kd_one ha
        obtain ⟨y, rfl, hy⟩ := kd_one hb
        have hg := isB_spec hg
        cases x <;> simp [kd] at hx
        cases y <;> simp [kd] at hy
        rename_i k1 x k2 y
        refine ⟨x == y, ?_, by simp [hx, hy]⟩
        simp only [vo, hg, List.headD_cons]
        rw [hx, hy]
        exact run_equalIn_int w (D + n) t k k x y hu
      · cases h
    · rename_i m e hu
      split at h
      · rename_i k1 hk1
        split at h
        · rename_i hc
          simp only [Bool.and_eq_true, Option.some.injEq] at hc h
          subst h
          obtain ⟨⟨⟨⟨c1, c2⟩, c3⟩, c4⟩, c5⟩ := hc
          have c1 := Nat.le_of_ble_eq_true c1
          obtain ⟨inf, hinf⟩ := Option.isSome_iff_exists.1 c2
          have c3 := Nat.eq_of_beq_eq_true c3
          have hs : sizeB P e = some k1.length := isN_spec c4
          have hg := isB_spec c5
          obtain ⟨x, hx, hx1⟩ := eqK_agg hk1
          simp only [vo, hg]
          rw [show D + (n + 1) = (D + n) + 1 from rfl, run_equalIn_array w (D + n) _ _ hu hinf, c3, List.range_eq_range']
          have key : ∀ m j (pa pb a b : List Value), pa.length = j * k1.length → pb.length = j * k1.length → a.map kd = ((List.replicate m k1).flatten).map some → b.map kd = ((List.replicate m k1).flatten).map some →
              ∃ c, (Op.eqItems (D + n) e k1.length (pa ++ a).toArray (pb ++ b).toArray (List.range' j m)).run P w = .ok c w ∧ (c = true ↔ a = b) := by
            intro m
            induction m with
            | zero =>
              intro j pa pb a b _ _ ha hb
              simp at ha hb
              subst ha hb
              exact ⟨true, by simp [Op.eqItems], by simp⟩
            | succ m ih =>
              intro j pa pb a b h1 h2 ha hb
              rw [List.replicate_succ, List.flatten_cons, List.map_append] at ha hb
              obtain ⟨a1, a2, rfl, ha1, ha2⟩ := List.map_eq_append_iff.1 ha
              obtain ⟨b1, b2, rfl, hb1, hb2⟩ := List.map_eq_append_iff.1 hb
              have la : a1.length = k1.length := by have := congrArg List.length ha1; simpa using this
              have lb : b1.length = k1.length := by have := congrArg List.length hb1; simpa using this
              have p1 := run_part_vo (P := P) (off := j * k1.length) (xs := pa ++ (a1 ++ a2)) w hx hs (by simp; omega) hx1
              have p2 := run_part_vo (P := P) (off := j * k1.length) (xs := pb ++ (b1 ++ b2)) w hx hs (by simp; omega) hx1
              rw [← h1, List.drop_left, ← la, List.take_left, h1] at p1
              rw [← h2, List.drop_left, ← lb, List.take_left, h2] at p2
              obtain ⟨c1, e1, e2⟩ := eqK_spec n hk1 a1 b1 ha1 hb1 D w
              rw [List.range'_succ]
              simp only [Op.eqItems, Sem.run_bind, p1, p2, e1, Result.andThen_ok]
              rw [app_iff (by omega)]
              cases c1 with
              | false => exact ⟨false, by simp, by simp at e2; simp [e2]⟩
              | true =>
                obtain ⟨c, r1, r2⟩ := ih (j + 1) (pa ++ a1) (pb ++ b1) a2 b2 (by simp [Nat.succ_mul]; omega) (by simp [Nat.succ_mul]; omega) ha2 hb2
                simp only [List.append_assoc] at r1
                refine ⟨c, by simpa using r1, ?_⟩
                simp at e2
                simp [e2, r2]
          exact key m 0 [] [] a b (by simp) (by simp) ha hb
        · cases h
      · cases h
    · rename_i fs hu
      split at h
      · rename_i hc
        simp only [Bool.and_eq_true] at hc
        have hg := isB_spec hc.2
        have hf : P.fieldsOf t = fs := by unfold Program.fieldsOf; rw [hu]
        simp only [vo, hg]
        rw [show D + (n + 1) = (D + n) + 1 from rfl, run_equalIn_agg w (D + n) t _ _ (by rw [hf]; exact hu) (by simpa using hc.1), hf]
        exact eqF_spec (fun t ks h => ⟨eqK_agg h, fun a b ha hb => eqK_spec n h a b ha hb⟩) a b [] [] h rfl rfl ha hb D w
      · cases h
    · cases h

theorem EqV.flat {P : Program} {n t : Nat} {ks : List CK} (h : (eqK P n t, aggB P t) = (some ks, some true)) {a b : List Value} (ha : a.map kd = ks.map some) (hb : b.map kd = ks.map some) (c : Bool) (hc : c = true ↔ a = b) :
    EqV P n t (.agg a.toArray) (.agg b.toArray) c := by
  obtain ⟨h1, h2⟩ := Prod.mk.inj h
  intro D w
  obtain ⟨c', r1, r2⟩ := eqK_spec n h1 a b ha hb D w
  simp only [vo, h2] at r1
  rw [r1]
  have : c' = c := by
    cases c <;> cases c' <;> simp_all
  rw [this]
theorem kd_iv (k : IntKind) (l : List Int) : (iv k l).map kd = List.replicate l.length (some (.int k)) := by
  unfold iv
  rw [List.map_map]
  induction l with
  | nil => rfl
  | cons x l ih => simp only [List.map_cons, List.length_cons, List.replicate_succ, ih]; rfl
end Go.Px
