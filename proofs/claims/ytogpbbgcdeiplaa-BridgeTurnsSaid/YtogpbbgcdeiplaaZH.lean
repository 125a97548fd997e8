/-
  That the walk by computing is enough, and a function's contract out of it. No condition.
-/
import Derived.Test.YtogpbbgcdeiplaaZK
set_option linter.all false
namespace Go.Px
open Go.RowKit

section
variable {FM : Nat → Fm}
variable {M : Nat → Prop} {w0 : World}

theorem qrun_suf {X : Cx} {N : Nat} {ops : Array Oper} {fl : FL} {S : SS FM} : ∀ (f n : Nat) (L : OT) (T : ST FM) (φ : List Prop) (T' : ST FM), qrun X N ops fl S f n L T = some (φ, T') → ∃ A, T' = A ++ T
  | 0, n, L, T, φ, T', h => by cases n <;> cases L <;> simp [qrun] at h
  | f + 1, 0, L, T, φ, T', h => by
    simp only [qrun, Option.some.injEq, Prod.mk.injEq] at h
    exact ⟨[], h.2.symm⟩
  | f + 1, n + 1, .nil, T, φ, T', h => by simp [qrun] at h
  | f + 1, n + 1, .br _ _, T, φ, T', h => by simp [qrun] at h
  | f + 1, n + 1, .s i rest, T, φ, T', h => by
    simp only [qrun] at h
    split at h
    · cases h
    rename_i o ho
    simp only [cond_eq_ite] at h
    split at h
    · cases h
    have next : ∀ {v : Option (TV FM)} {φ' : List Prop}, qrun X N ops fl S f n rest (setT T o.dst v) = some (φ', T') → ∃ A, T' = A ++ T := by
      intro v φ' hq
      obtain ⟨A, hA⟩ := qrun_suf f n rest _ _ _ hq
      obtain ⟨B, hB⟩ := setT_ext T o.dst v
      exact ⟨A ++ B, by rw [hA, hB, List.append_assoc]⟩
    split at h
    · cases h
    · exact next h
    · split at h
      · split at h
        · split at h
          · exact next h
          · cases h
        · cases h
      · split at h
        · split at h
          · obtain ⟨⟨ψ, T2⟩, hr, h⟩ := Option.map_eq_some_iff.1 h
            simp only [Prod.mk.injEq] at h
            obtain ⟨rfl, rfl⟩ := h
            exact next hr
          · cases h
        · cases h
    · split at h
      · split at h
        · split at h
          · split at h
            · rename_i T3 hm
              obtain ⟨⟨ψ, T4⟩, hr, h⟩ := Option.map_eq_some_iff.1 h
              simp only [Prod.mk.injEq] at h
              obtain ⟨rfl, rfl⟩ := h
              obtain ⟨A, hA⟩ := qrun_suf f _ _ _ _ _ hr
              unfold mrgP at hm
              split at hm
              · split at hm
                · split at hm
                  · split at hm
                    · split at hm
                      · simp only [cond_eq_ite] at hm
                        split at hm
                        · simp only [Option.some.injEq] at hm; subst hm
                          rw [hA, ← List.cons_append, ← List.append_assoc]
                          exact ⟨_, rfl⟩
                        · cases hm
                      · cases hm
                    · cases hm
                  · cases hm
                · cases hm
              · cases hm
            · cases h
          · cases h
        · cases h
      · cases h

theorem newP_ok {rc : RC FM} {Q0 : Exit → Act → World → Prop} {R : Pt → List (Fr FM) → SS FM → Prop} {fs : List (Fr FM)} {S : SS FM} {w : World} {ops : Array Oper} {dr : Bool} {ov : List (Nat × Nat)} {i : Nat} {rest : OT} {o : Oper}
    (hS : S.WF) (H : Hp M w0 w S.md) (hG : RG M w0 S) (hI : InvF rc.N M w0 fs S) (ho : ops[i]? = some o) (hd : dstOk (nOf rc.N fs) o.dst = true) (hg : gst S.T ops o = some .want)
    (hR : ∀ pt fs S w, R pt fs S → S.WF → RG M w0 S → InvF rc.N M w0 fs S → Hp M w0 w S.md → Goal (roOf fs) rc.X.P (nOf rc.N fs) (QF rc.X.P rc.N M w0 Q0 fs) pt S w)
    (h : newP rc R ops dr ov i rest fs S o) : WC rc.X.P (nOf rc.N fs) ops (QF rc.X.P rc.N M w0 Q0 fs) (flR (roOf fs) dr ops ov) (.s i rest) S.Td w := by
  unfold newP at h
  have new_at : ∀ b, bno (S.E ++ [.bk b]) S.E.length = b := fun b => by unfold bno; simp
  have new_bk : ∀ b, isbk (S.E ++ [.bk b]) S.E.length = true := fun b => by unfold isbk; simp
  have hlt : Nat.blt S.E.length (S.E.length + 1) = true := Nat.blt_eq.mpr (by omega)
  obtain ⟨N', a0, ha0⟩ := tm_some S.Td
  split at h
  · rename_i c ty hc
    simp only [cond_eq_ite] at h
    split at h
    · rename_i hk
      simp only [Bool.and_eq_true] at hk
      have hcw := (newC_ok hS hc hk.2 ha0 w).1
      refine wc_newS (v := fun r => .pointer (some ⟨r, 0, none⟩)) H ho hd hg hk.1 (fun a ha w => (newC_ok hS hc hk.2 ha w).2.1 rfl) (fun b w' H' => ?_)
      have hm : (⟨setT S.T o.dst (some (.v (.one (.pt S.E.length 0)))), S.E ++ [.bk b], [.bk S.E.length c ty] ++ S.m, S.V, S.R⟩ : SS FM).md = .bk b (row (cden S.E c) ty) :: S.md := by
        show mden (S.E ++ [.bk b]) (.bk S.E.length c ty :: S.m) = _
        simp only [mden, Pc.den, new_at, cext hk.2, mden_ext hS.ml]; rfl
      have hW : (⟨setT S.T o.dst (some (.v (.one (.pt S.E.length 0)))), S.E ++ [.bk b], [.bk S.E.length c ty] ++ S.m, S.V, S.R⟩ : SS FM).WF :=
        add_wf hS trivial hlt ⟨hcw, trivial⟩ (by simp only [mlt, Pc.lt, hlt, cok_mono (Nat.le_succ _) hk.2, List.length_singleton, Bool.and_self]) (by simp only [mbk, Pc.bkok, new_bk, Bool.and_self])
      have := hR (.ops ops dr ov rest) fs _ w' (h b) hW (hG.ext hS.r add_ext) (hI.ext add_ext) (by rw [hm]; exact H')
      have this : WC _ _ _ _ _ _ (tden _ (setT S.T o.dst (some _))) _ := this
      rw [tden_setT, tden_ext hS.tl] at this
      simp only [TV.den, SV.den, S0.den, plc_bk (new_bk b), new_at] at this
      exact this
    · exact h.elim
  · rename_i c ty n s hc
    simp only [cond_eq_ite] at h
    split at h
    · rename_i hk
      simp only [Bool.and_eq_true] at hk
      have hcw := (newC_ok hS hc hk.2 ha0 w).1
      obtain ⟨l1, l2, -⟩ := (newC_ok hS hc hk.2 ha0 w).2.2 n s rfl
      refine wc_newS (v := fun r => .slice (some ⟨r, 0, none⟩) n n) H ho hd hg hk.1 (fun a ha w => ((newC_ok hS hc hk.2 ha w).2.2 n s rfl).2.2) (fun b w' H' => ?_)
      have hb0 : bas (S.E ++ [.bk b]) S.E.length 0 = some ⟨b, 0, none⟩ := by rw [bas_bk (new_bk b), new_at]
      have hm : (⟨setT S.T o.dst (some (.v (.one (.sc S.E.length 0 n n false)))), S.E ++ [.bk b], [.sl S.E.length n n c ty s] ++ S.m, S.V, S.R⟩ : SS FM).md = .sl (some ⟨b, 0, none⟩) n n (cden S.E c) ty s :: S.md := by
        show mden (S.E ++ [.bk b]) (.sl S.E.length n n c ty s :: S.m) = _
        simp only [mden, Pc.den, hb0, cext hk.2, mden_ext hS.ml]; rfl
      have hW : (⟨setT S.T o.dst (some (.v (.one (.sc S.E.length 0 n n false)))), S.E ++ [.bk b], [.sl S.E.length n n c ty s] ++ S.m, S.V, S.R⟩ : SS FM).WF :=
        add_wf hS trivial hlt ⟨hcw, trivial⟩ (by simp only [mlt, Pc.lt, hlt, cok_mono (Nat.le_succ _) hk.2, List.length_singleton, Bool.and_self]) rfl
      have := hR (.ops ops dr ov rest) fs _ w' (h b) hW (hG.ext hS.r add_ext) (hI.ext add_ext) (by rw [hm]; exact H'.toSl' n s l1 l2)
      have this : WC _ _ _ _ _ _ (tden _ (setT S.T o.dst (some _))) _ := this
      rw [tden_setT, tden_ext hS.tl] at this
      simp only [TV.den, SV.den, S0.den, hb0] at this
      exact this
    · exact h.elim
  · exact h.elim

inductive RVL (P : Program) (T : Tab) (w : World) : List ResultVar → List Value → Prop where
  | nil : RVL P T w [] []
  | cons {r : ResultVar} {v : Value} {rs : List ResultVar} {vs : List Value} : RV P T w r v → RVL P T w rs vs → RVL P T w (r :: rs) (v :: vs)
theorem resQ_spec {X : Cx} {S : SS FM} (hS : S.WF) {w : World} (H : HS M w0 w S) : ∀ {rs : List ResultVar} {φ : List Prop} {vs : List (SV FM)}, resQ X S rs = some (φ, vs) → All φ → RVL X.P S.Td w rs (vs.map (SV.den S.E)) ∧ svwf vs ∧ svlt S.E.length vs = true
  | [], φ, vs, h, _ => by
    simp only [resQ, Option.some.injEq, Prod.mk.injEq] at h
    obtain ⟨rfl, rfl⟩ := h
    exact ⟨.nil, trivial, rfl⟩
  | .tmp t :: r, φ, vs, h, hφ => by
    simp only [resQ] at h
    split at h
    · rename_i v φ' l hv hr
      simp only [Option.some.injEq, Prod.mk.injEq] at h
      obtain ⟨rfl, rfl⟩ := h
      obtain ⟨g1, g2, g3⟩ := resQ_spec hS H hr hφ
      exact ⟨.cons (look_of (E := S.E) hv) g1, ⟨stwf_look hS.t hv, g2⟩, by simp only [svlt, Bool.and_eq_true]; exact ⟨stlt_look hS.tl hv, g3⟩⟩
    · cases h
  | .cell t ty :: r, φ, vs, h, hφ => by
    simp only [resQ] at h
    split at h
    · rename_i id off φ' l hv hr
      simp only [cond_eq_ite] at h
      split at h
      · rename_i hb
        obtain ⟨⟨ψ, v⟩, hl, h⟩ := Option.map_eq_some_iff.1 h
        simp only [Prod.mk.injEq] at h
        obtain ⟨rfl, rfl⟩ := h
        obtain ⟨h1, h2⟩ := All_append.1 hφ
        obtain ⟨g1, g2, g3⟩ := resQ_spec hS H hr h2
        obtain ⟨l1, l2, A, cs, o, l3, l4, l5⟩ := loadS_spec hS H hl h1
        refine ⟨.cons ⟨bno S.E id, off, ?_, fun w' k => ?_⟩ g1, ⟨l1, g2⟩, by simp only [svlt, Bool.and_eq_true]; exact ⟨l2, g3⟩⟩
        · have := look_of (E := S.E) hv
          simp only [TV.den, SV.den, S0.den, plc_bk hb] at this
          exact this
        · have l3 : Value.pointer (some (plc S.E id off)) = .pointer (some (adr A o)) := l3
          rw [plc_bk hb] at l3
          simp only [Value.pointer.injEq, Option.some.injEq] at l3
          have := Ld.rd (P := X.P) l4 ty o _ l5 w' k
          rw [← l3] at this
          exact this
      · cases h
    · cases h

def tupV : List Value → Value
  | [v] => v
  | l => .tuple l.toArray
theorem resL {P : Program} {N : FN} {T : Tab} {w : World} {fn : Func} {rs : List ResultVar} {vs : List Value} (hr : fn.results = rs.toArray) (hl : rs.length ≤ 4) (hv : RVL P T w rs vs) :
    ∀ a, Tm N T a → (results fn a.tmps).run P w = .ok (tupV vs) w := by
  cases hv with
  | nil => exact Go.Px.res0 hr
  | cons a hv =>
    cases hv with
    | nil => exact Go.Px.res1 hr a
    | cons b hv =>
      cases hv with
      | nil => exact Go.Px.res2 hr a b
      | cons c hv =>
        cases hv with
        | nil => exact Go.Px.res3 hr a b c
        | cons d hv =>
          cases hv with
          | nil => exact Go.Px.res4 hr a b c d
          | cons f hv => simp at hl

theorem tupS_den {E : List Ad} (vs : List (SV FM)) : tupV (vs.map (SV.den E)) = (tupS vs).den E := by
  cases vs with
  | nil => rfl
  | cons a vs =>
    cases vs with
    | nil => rfl
    | cons b vs => rfl
theorem tupS_wf {vs : List (SV FM)} (h : svwf vs) : (tupS vs).wf := by
  cases vs with
  | nil => exact h
  | cons a vs =>
    cases vs with
    | nil => exact h.1
    | cons b vs => exact h

theorem tupS_lt {n : Nat} {vs : List (SV FM)} (h : svlt n vs = true) : (tupS vs).lt n = true := by
  cases vs with
  | nil => exact h
  | cons a vs =>
    cases vs with
    | nil => simp only [svlt, Bool.and_eq_true] at h; exact h.1
    | cons b vs => exact h
/-! ### Ends of functions -/
theorem leavesN {P : Program} {F : Fence} {n : Nat} {fn : Func} {tmps : Array Value} {R : Ending → World → Prop} {w : World} (h : ∃ v, (results fn tmps).run P w = .ok v w ∧ R (.returned v) w) : LeavesInM F n P fn tmps R [] .returning w := h
theorem putObj_hp {m : Mem} {w : World} (H : Hp M w0 w m) {k b : Nat} {o o' : Obj} (hk : m[k]? = some (.bk b o)) : Hp M w0 (w.putObj b o') (m.set k (.bk b o')) :=
  H.put hk rfl rfl rfl (by simp) (World.putObj_heap_same (lt_of_some (H.ent hk))) (fun j hj => World.putObj_heap_other hj)
theorem leavesM {P : Program} {F : Fence} {n : Nat} {fn : Func} {tmps : Array Value} {R : Ending → World → Prop} {D : List Deferred} {u : FrameMode} {E : List Ad} (hu : u ≠ .run) : ∀ {ids : List Nat} {m m' : List (Pc FM)} {w : World}, takeM m ids = some m' → Hp M w0 w (mden E m) →
    (∀ w', Hp M w0 w' (mden E m') → LeavesInM F n P fn tmps R D u w') → LeavesInM F n P fn tmps R (marks E ids ++ D) u w
  | [], m, m', w, h, H, k => by
    simp only [takeM, Option.some.injEq] at h; subst h
    exact k w H
  | id :: r, m, m', w, h, H, kk => by
    simp only [takeM] at h
    split at h
    · rename_i k id' hp
      obtain ⟨p1, p2, p3⟩ := pcAt_spec (E := E) hp
      simp only [Pc.id?, Option.some.injEq] at p3; subst p3
      have hh := H.ent p2
      refine ⟨hu, .inl ⟨bno E id', w.putObj (bno E id') (.deferred none), rfl, run_takeDeferred hh, ?_⟩⟩
      refine leavesM hu h ?_ kk
      have := putObj_hp (o' := .deferred none) H p2
      rw [mden_set]; exact this
    · cases h
theorem takeM_wf {E : List Ad} : ∀ {ids : List Nat} {m m' : List (Pc FM)}, takeM m ids = some m' → mwf m → mlt E.length m = true → mbk E m = true → mwf m' ∧ mlt E.length m' = true ∧ mbk E m' = true
  | [], m, m', h, h1, h2, h3 => by
    simp only [takeM, Option.some.injEq] at h; subst h
    exact ⟨h1, h2, h3⟩
  | id :: r, m, m', h, h1, h2, h3 => by
    simp only [takeM] at h
    split at h
    · rename_i k id' hp
      obtain ⟨p1, p2, p3⟩ := pcAt_spec (E := E) hp
      simp only [Pc.id?, Option.some.injEq] at p3; subst p3
      exact takeM_wf h (mwf_set h1 trivial) (mlt_set h2 (show Nat.blt id' E.length = true from mlt_at h2 p1)) (mbk_set h3 (show isbk E id' = true from mbk_at h3 p1))
    · cases h
theorem takeM_S {S : SS FM} (hS : S.WF) {ids : List Nat} {m : List (Pc FM)} (h : takeM S.m ids = some m) : ({ S with m := m } : SS FM).WF := by
  obtain ⟨g1, g2, g3⟩ := takeM_wf h hS.m hS.ml hS.b
  exact ⟨g3, hS.r, hS.t, hS.tl, g1, g2, hS.v⟩

/-- What a record of a loop is, and how it is changed. -/
theorem lp_at {S : SS FM} (hS : S.WF) {w : World} (H : Hp M w0 w S.md) {id k id' : Nat} {r : Loop} {st : LoopState} {pd : Option Code} (h : pcAt S.m id = some (k, .lp id' r st pd)) :
    w.heap[bno S.E id]? = some (.loop { r with state := st, pending := pd }) ∧ ∀ st' pd', ({ S with m := S.m.set k (.lp id r st' pd') } : SS FM).WF ∧ Hp M w0 (w.putObj (bno S.E id) (.loop { r with state := st', pending := pd' })) ({ S with m := S.m.set k (.lp id r st' pd') } : SS FM).md := by
  obtain ⟨p1, p2, p3⟩ := pcAt_spec (E := S.E) h
  simp only [Pc.id?, Option.some.injEq] at p3; subst p3
  refine ⟨H.ent p2, fun st' pd' => ⟨hS.setm trivial (show Nat.blt id' S.E.length = true from mlt_at hS.ml p1) (show isbk S.E id' = true from mbk_at hS.b p1), ?_⟩⟩
  have := putObj_hp (o' := .loop { r with state := st', pending := pd' }) H p2
  show Hp M w0 _ (mden S.E (S.m.set k (.lp id' r st' pd')))
  rw [mden_set]; exact this

theorem resV_spec {X : Cx} {S : SS FM} (hS : S.WF) {w : World} (H : HS M w0 w S) {rs : List ResultVar} {φ : List Prop} {v : TV FM} (h : resV X S rs = some (φ, v)) (hφ : All φ) : ∃ vs, RVL X.P S.Td w rs vs ∧ tupV vs = v.den S.E ∧ v.wf ∧ v.lt S.E.length = true := by
  unfold resV at h
  split at h
  · rename_i ψ vs hq
    simp only [Option.some.injEq, Prod.mk.injEq] at h
    obtain ⟨rfl, rfl⟩ := h
    obtain ⟨g1, g2, g3⟩ := resQ_spec hS H hq hφ
    exact ⟨_, g1, tupS_den _, tupS_wf g2, tupS_lt g3⟩
  · split at h
    · rename_i t
      split at h
      · rename_i f a b hv
        simp only [Option.some.injEq, Prod.mk.injEq] at h
        obtain ⟨rfl, rfl⟩ := h
        exact ⟨[_], .cons (look_of (E := S.E) hv) .nil, rfl, stwf_look hS.t hv, stlt_look hS.tl hv⟩
      · cases h
    · cases h
section
variable {rc : RC FM} {Q0 : Exit → Act → World → Prop} {R : Pt → List (Fr FM) → SS FM → Prop} {fs : List (Fr FM)} {S : SS FM} {w : World}
    (hR : ∀ pt fs S w, R pt fs S → S.WF → RG M w0 S → InvF rc.N M w0 fs S → Hp M w0 w S.md → Goal (roOf fs) rc.X.P (nOf rc.N fs) (QF rc.X.P rc.N M w0 Q0 fs) pt S w)
include hR

/-- Behind a call that was gone through in place. -/
theorem clEnd_ok {ops : Array Oper} {dr : Bool} {ov : List (Nat × Nat)} {rest : OT} {dst : Option Nat} {T : ST FM} {E : List Ad} {g : FuncId} {fn : Func}
    (hS : S.WF) (H : Hp M w0 w S.md) (hG : RG M w0 S) (hI : InvF rc.N M w0 (.cl ops dr ov rest dst T E g fn :: fs) S) (h : clEnd rc R ops dr ov rest dst T fn fs S) {N : FN} :
    At N S.Td w fun a w => ∃ v, (results fn a.tmps).run rc.X.P w = .ok v w ∧ clR rc.X.P (nOf rc.N fs) ops (flR (roOf fs) dr ops ov) rest (tden E T) dst (QF rc.X.P rc.N M w0 Q0 fs) (.returned v) w := by
  unfold clEnd at h
  split at h
  · rename_i φ v hq
    obtain ⟨hφ, h⟩ := andL_iff.1 h
    obtain ⟨⟨⟨X, h1⟩, h2, h3, h4⟩, h5⟩ := hI
    obtain ⟨vs, g1, g0, g2, g3⟩ := resV_spec hS (hG.hs H) hq hφ
    have hl : E.length ≤ S.E.length := by rw [h1]; simp
    have hW : (⟨setT T dst (some v), S.E, S.m, S.V, S.R⟩ : SS FM).WF :=
      ⟨hS.b, hS.r, stwf_set h2 g2, stlt_set (stlt_mono hl h3) g3, hS.m, hS.ml, hS.v⟩
    have := hR (.ops ops dr ov rest) fs _ w h hW hG (h5.ext ⟨setT_ext _ _ _, ⟨[], by simp⟩, rfl⟩) H
    have this : WC _ _ _ _ _ _ (tden S.E (setT T dst (some _))) _ := this
    rw [tden_setT, ← g0] at this
    have e3 : tden S.E T = tden E T := by rw [h1, tden_ext h3]
    rw [e3] at this
    exact fun a ha => ⟨tupV vs, resL (by simp) h4 g1 a ha, .inl ⟨_, rfl, this⟩⟩
  · exact h.elim

/-- Behind the function that was ranged over. -/
theorem rfEnd_ok {T : ST FM} {E : List Ad} {g : FuncId} {fn : Func} {id : Nat} {r0 : Loop} {bl bD : Nat} {ps : Array Tmp} {a b : Code} {n kb : Nat}
    (hS : S.WF) (H : Hp M w0 w S.md) (hG : RG M w0 S) (hI : InvF rc.N M w0 (.rf T E g fn id r0 bl bD ps a b n kb :: fs) S) (h : rfEnd R T bD id fs S) (e : Exit) (he : e = .normal ∨ e = .ret) :
    At ⟨fn.ntmps, []⟩ S.Td w (QF rc.X.P rc.N M w0 Q0 (.rf T E g fn id r0 bl bD ps a b n kb :: fs) e) := by
  obtain ⟨⟨⟨X, h1⟩, h2, h3, h4, h6, h7, h8, h9, h10⟩, h5⟩ := hI
  have hbl : bno S.E id = bl := by rw [h1, h2]; unfold bno; simp
  have hbD : bno S.E (Nat.pred id) = bD := by rw [h1, h2]; unfold bno; simp
  have hidD : Nat.blt (Nat.pred id) S.E.length = true := by rw [h1, h2]; simp
  have hE : tden S.E T = tden E T := by rw [h1, tden_ext h4]
  have hl : E.length ≤ S.E.length := by rw [h1]; simp
  unfold rfEnd at h
  split at h
  · rename_i k id' r st pd hp
    simp only [cond_eq_ite] at h
    split at h
    · exact h.elim
    rename_i hb
    obtain ⟨q1, q2⟩ := lp_at hS H hp
    rw [hbl] at q1 q2
    have hst : st ≠ .busy := by intro e; subst e; exact hb rfl
    have go : ∀ {pt : Pt}, R pt (.df [mkD bD] [Nat.pred id] :: fs) ⟨T, S.E, S.m.set k (.lp id r .exhausted pd), S.V, S.R⟩ →
        Goal (roOf fs) rc.X.P ⟨(nOf rc.N fs).n, [mkD bD] ++ (nOf rc.N fs).D⟩ (QF rc.X.P rc.N M w0 Q0 fs) pt ⟨T, S.E, S.m.set k (.lp id r .exhausted pd), S.V, S.R⟩ (w.putObj bl (.loop { r with state := .exhausted, pending := pd })) := by
      intro pt hr
      obtain ⟨w1, w2⟩ := q2 .exhausted pd
      have hW : (⟨T, S.E, S.m.set k (.lp id r .exhausted pd), S.V, S.R⟩ : SS FM).WF := ⟨w1.b, w1.r, h3, stlt_mono hl h4, w1.m, w1.ml, w1.v⟩
      exact hR pt (.df [mkD bD] [Nat.pred id] :: fs) _ _ hr hW hG ⟨⟨by simp only [marks, hbD], by simp only [idsOk, hidD, Bool.and_self]⟩, h5.ext ⟨⟨[], rfl⟩, ⟨[], by simp⟩, rfl⟩⟩ w2
    have key : ∀ (ac : Act), Tm (nOf rc.N fs) (tden E T) ac → rangePost (FR none) 0 rc.X.P bl (QF rc.X.P rc.N M w0 Q0 fs) { ac with defers := mkD bD :: ac.defers } (.returned (.tuple #[])) w := by
      intro ac hac
      have hT : Tm ⟨(nOf rc.N fs).n, [mkD bD] ++ (nOf rc.N fs).D⟩ (tden S.E T) { ac with defers := mkD bD :: ac.defers } := by
        rw [hE]; exact ⟨by show mkD bD :: ac.defers = _; rw [hac.1]; rfl, hac.2.1, hac.2.2⟩
      refine ⟨pd, _, run_endLoop q1 hst, ?_⟩
      split at h
      · exact (go h : At _ _ _ _) _ hT
      · refine wpIn_exit ?_
        exact (go h : At _ _ _ _) _ hT
      · refine wpIn_ret ?_
        exact (go h : At _ _ _ _) _ hT
      · exact h.elim
    have hres : ∀ a, Tm ⟨fn.ntmps, []⟩ S.Td a → (results fn a.tmps).run rc.X.P w = .ok (.tuple #[]) w := res0 (by exact Array.eq_empty_of_size_eq_zero h9)
    intro ac hac
    have hd : ac.defers = [] := hac.1
    rcases he with rfl | rfl
    · show LeavesInM (FR none) 0 rc.X.P fn ac.tmps _ ac.defers .returning w
      rw [hd]
      exact leavesN ⟨_, hres ac hac, key⟩
    · show LeavesInM (FR none) 0 rc.X.P fn ac.tmps _ ac.defers .returning w
      rw [hd]
      exact leavesN ⟨_, hres ac hac, key⟩
  · exact h.elim
end
theorem rfOf_spec {N : Nat} {w0 : World} : ∀ {fs : List (Fr FM)} {S : SS FM} {id : Nat} {T0 : ST FM} {ps : Array Tmp} {a b : Code} {r : Loop} {bl n kb : Nat}, InvF N M w0 fs S → rfOf fs id = some (T0, ps, a, b, r, bl, n, kb) →
    Nat.blt id S.E.length = true ∧ bno S.E id = bl ∧ stwf T0 ∧ stlt S.E.length T0 = true ∧ r.params = ps ∧ r.assign = a ∧ r.body = b ∧ r.tmps.size = n ∧ (∀ t v, look (tden S.E T0) t = some v → r.tmps[t]? = some v) ∧ psOk n ps.toList = true
  | [], _, _, _, _, _, _, _, _, _, _, _, h => by simp [rfOf] at h
  | .rf T E g fn id' r' bl' bD' ps' a' b' n' kb' :: fs, S, id, T0, ps, a, b, r, bl, n, kb, hI, h => by
    obtain ⟨⟨⟨X, h1⟩, h2, h3, h4, ⟨c1, c2, c3, c4, c5⟩, h7, h8, h9, h10⟩, h5⟩ := hI
    simp only [rfOf, cond_eq_ite] at h
    split at h
    · rename_i hid
      have := beq_n hid; subst this
      simp only [Option.some.injEq, Prod.mk.injEq] at h
      obtain ⟨rfl, rfl, rfl, rfl, rfl, rfl, rfl, rfl⟩ := h
      have hl : E.length ≤ S.E.length := by rw [h1]; simp
      refine ⟨by rw [h2, h1]; simp, by rw [h1, h2]; unfold bno; simp, h3, stlt_mono hl h4, c1, c2, c3, c4, ?_, h10⟩
      have hE : tden S.E T = tden E T := by rw [h1, tden_ext h4]
      rw [hE]; exact c5
    · exact rfOf_spec (S := { S with T := T }) h5 h
  | .cl _ _ _ _ _ T _ _ _ :: fs, S, _, _, _, _, _, _, _, _, _, hI, h => rfOf_spec (S := { S with T := T }) hI.2 (by simpa [rfOf] using h)
  | .yd _ _ _ _ _ T _ _ _ _ _ :: fs, S, _, _, _, _, _, _, _, _, _, hI, h => rfOf_spec (S := { S with T := T }) hI.2 (by simpa [rfOf] using h)
  | .df _ _ :: fs, S, _, _, _, _, _, _, _, _, _, hI, h => rfOf_spec hI.2 (by simpa [rfOf] using h)
  | .as _ _ _ :: fs, S, _, _, _, _, _, _, _, _, _, hI, h => rfOf_spec hI.2 (by simpa [rfOf] using h)
  | .hd _ _ _ _ :: fs, S, _, _, _, _, _, _, _, _, _, hI, h => rfOf_spec hI.2 (by simpa [rfOf] using h)
  | .sq _ :: fs, S, _, _, _, _, _, _, _, _, _, hI, h => rfOf_spec (fs := fs) hI (by simpa [rfOf] using h)
  | .blk _ :: fs, S, _, _, _, _, _, _, _, _, _, hI, h => rfOf_spec (fs := fs) hI (by simpa [rfOf] using h)
  | .np :: fs, S, _, _, _, _, _, _, _, _, _, hI, h => rfOf_spec (fs := fs) hI (by simpa [rfOf] using h)
theorem bindT_spec {E : List Ad} : ∀ {ps : List Nat} {l : List (TV FM)} {T : ST FM} {N : FN} {a : Act}, l.length = ps.length → psOk N.n ps = true → tvswf l → stwf T → tvslt E.length l = true → stlt E.length T = true → Tm N (tden E T) a →
    stwf (bindT ps l T) ∧ stlt E.length (bindT ps l T) = true ∧ Tm N (tden E (bindT ps l T)) { a with tmps := (ps.zip (l.map (TV.den E))).foldl (fun tmps (t, a) => tmps.setIfInBounds t a) a.tmps }
  | [], [], T, N, a, _, _, _, h1, _, h2, h3 => ⟨h1, h2, h3⟩
  | p :: ps, v :: l, T, N, a, hl, hp, hw, h1, hlt, h2, h3 => by
    simp only [psOk, Bool.and_eq_true] at hp
    simp only [tvslt, Bool.and_eq_true] at hlt
    have h4 : Tm N (tden E ((p, some v) :: T)) { a with tmps := a.tmps.setIfInBounds p (v.den E) } := by
      have := h3.put (d := p) (Nat.blt_eq.mp hp.1) (v.den E)
      simpa [Act.put, tden] using this
    have := bindT_spec (E := E) (ps := ps) (l := l) (T := (p, some v) :: T) (N := N) (by simpa using hl) hp.2 hw.2 ⟨hw.1, h1⟩ hlt.2 (by simp only [stlt, otlt, hlt.1, h2, Bool.and_self]) h4
    simpa [bindT] using this
  | [], _ :: _, _, _, _, hl, _, _, _, _, _, _ => by simp at hl
  | _ :: _, [], _, _, _, hl, _, _, _, _, _, _ => by simp at hl
theorem roundPost_mono {P : Program} {l : Nat} {R R' : Ending → World → Prop} (h : ∀ e w, R e w → R' e w) : ∀ (e : Exit) (a : Act) (w : World), roundPost P l R e a w → roundPost P l R' e a w := by
  intro e a w hh
  cases e <;> first | exact hh | (obtain ⟨v, w', h1, h2⟩ := hh; exact ⟨v, w', h1, h _ _ h2⟩)
theorem argT_den {E : List Ad} : ∀ {l : List (TV FM)} {i : Nat}, tden E (argT l i) = argTab (l.map (TV.den E)) i
  | [], _ => rfl
  | v :: r, i => by simp only [argT, tden, List.map_cons, argTab, argT_den (l := r)]
theorem argT_wf : ∀ {l : List (TV FM)} {i : Nat}, tvswf l → stwf (argT l i)
  | [], _, _ => trivial
  | v :: r, i, h => ⟨h.1, argT_wf h.2⟩
theorem argT_lt {n : Nat} : ∀ {l : List (TV FM)} {i : Nat}, tvslt n l = true → stlt n (argT l i) = true
  | [], _, _ => rfl
  | v :: r, i, h => by
    simp only [tvslt, Bool.and_eq_true] at h
    simp only [argT, stlt, otlt, h.1, argT_lt h.2, Bool.and_self]

theorem inlB_spec {P : Program} {inl : List Nat} {f : FuncId} {fn : Func} {c : Code} (hB : inlB P inl f = some (fn, c)) : P.funcs[f]? = some fn ∧ fn.body = some c := by
  unfold inlB at hB
  simp only [cond_eq_ite] at hB
  split at hB
  · split at hB
    · rename_i fn' hfn
      split at hB
      · rename_i c' hc'
        simp only [Option.some.injEq, Prod.mk.injEq] at hB
        obtain ⟨rfl, rfl⟩ := hB
        exact ⟨hfn, hc'⟩
      · cases hB
    · cases hB
  · cases hB
theorem enterM {P : Program} {f : FuncId} {fn : Func} {c : Code} {args : List Value} {w : World} {R : Ending → World → Prop} (hf : P.funcs[f]? = some fn) (hb : fn.body = some c) (ha : args.length ≤ fn.ntmps)
    (h : WN none P ⟨fn.ntmps, []⟩ c (bodyPostM (FR none) 0 P fn R) (argTab args 0) w) : Calls P f args.toArray w R := by
  refine Calls.ofR (ro := none) (n := 0) (callsIn_of_wp_marks hf hb trivial (h _ ⟨rfl, ?_, fun t v ht => ?_⟩) rfl)
  · simp; omega
  · obtain ⟨_, h2⟩ := argTab_spec args 0 t v ht
    simp only [Nat.sub_zero] at h2
    rw [Array.getElem?_append_left (by simpa using (List.getElem?_eq_some_iff.1 h2).1)]
    simpa using h2
theorem df_merge {N : Nat} {fs : List (Fr FM)} {S : SS FM} {ds ds' : List Deferred} {ids ids' : List Nat} (h : InvF N M w0 (.df ds ids :: .df ds' ids' :: fs) S) : InvF N M w0 (.df (ds ++ ds') (ids ++ ids') :: fs) S := by
  obtain ⟨⟨h1, h2⟩, ⟨h3, h4⟩, h5⟩ := h
  exact ⟨⟨by rw [marks_append, h1, h3], by rw [idsOk_append, h2, h4]; rfl⟩, h5⟩
theorem fin_ok {rc : RC FM} {fn0 : Func} {Rp : Ending → World → Prop} {S : SS FM} {w : World} {ds : List Deferred} {ids : List Nat} {m : List (Pc FM)}
    (hfin : ∀ S w, rc.fin S → S.WF → RG M w0 S → Hp M w0 w S.md → ∀ (N : FN) a, Tm N S.Td a → ∃ v, (results fn0 a.tmps).run rc.X.P w = .ok v w ∧ Rp (.returned v) w)
    (hS : S.WF) (H : Hp M w0 w S.md) (hG : RG M w0 S) (hI : InvF rc.N M w0 [.df ds ids] S) (hm : takeM S.m ids = some m) (h : rc.fin { S with m := m }) :
    ∀ a, Tm ⟨rc.N, ds ++ []⟩ S.Td a → LeavesInM (FR none) 0 rc.X.P fn0 a.tmps Rp a.defers .returning w := by
  intro a ha
  have hd : a.defers = marks S.E ids ++ [] := by rw [← hI.1.1]; exact ha.1
  rw [hd]
  exact leavesM (by simp) hm H fun w' H' => leavesN (hfin { S with m := m } w' h (takeM_S hS hm) hG H' _ a ha)
section
variable {rc : RC FM} {Q0 : Exit → Act → World → Prop} {R : Pt → List (Fr FM) → SS FM → Prop} {fs : List (Fr FM)} {S : SS FM} {w : World}
    (hR : ∀ pt fs S w, R pt fs S → S.WF → RG M w0 S → InvF rc.N M w0 fs S → Hp M w0 w S.md → Goal (roOf fs) rc.X.P (nOf rc.N fs) (QF rc.X.P rc.N M w0 Q0 fs) pt S w)
include hR
theorem dfcl_ok {ds : List Deferred} {ids : List Nat} {m : List (Pc FM)} {ops : Array Oper} {dr : Bool} {ov : List (Nat × Nat)} {rest : OT} {dst : Option Nat} {T : ST FM} {E : List Ad} {g : FuncId} {fn : Func}
    (hS : S.WF) (H : Hp M w0 w S.md) (hG : RG M w0 S) (hI : InvF rc.N M w0 (.df ds ids :: .cl ops dr ov rest dst T E g fn :: fs) S) (hm : takeM S.m ids = some m) (h : clEnd rc R ops dr ov rest dst T fn fs { S with m := m }) :
    ∀ a, Tm ⟨fn.ntmps, ds ++ []⟩ S.Td a → LeavesInM (FR none) 0 rc.X.P fn a.tmps (clR rc.X.P (nOf rc.N fs) ops (flR (roOf fs) dr ops ov) rest (tden E T) dst (QF rc.X.P rc.N M w0 Q0 fs)) a.defers .returning w := by
  intro a ha
  have hd : a.defers = marks S.E ids ++ [] := by rw [← hI.1.1]; exact ha.1
  rw [hd]
  exact leavesM (by simp) hm H fun w' H' => leavesN (clEnd_ok hR (S := { S with m := m }) (takeM_S hS hm) H' hG (hI.2.ext ⟨⟨[], rfl⟩, ⟨[], by simp⟩, rfl⟩) h a ha)
theorem rf_ok {f : Operand} {ps : Array Tmp} {a b : Code} {g : FuncId} {x y : List (SV FM)} {fn : Func} {c : Code}
    (hS : S.WF) (H : Hp M w0 w S.md) (hG : RG M w0 S) (hI : InvF rc.N M w0 fs S) (hro : roOf fs = none) (k2 : callOk rc.X.P g = true) (k3 : x.length + (1 + y.length) ≤ fn.ntmps) (k4 : fn.results.size = 0) (k5 : psOk (nOf rc.N fs).n ps.toList = true)
    (hf : evS rc.X S none f = some (.fn g x y)) (hB : inlB rc.X.P rc.inl g = some (fn, c))
    (h : ∀ (bD bl : Nat) (r : Loop), R (.code c) (.rf S.T S.E g fn (S.E.length + 1) r bl bD ps a b (nOf rc.N fs).n (keyB fs) :: fs) ⟨argT (x.map .v ++ (.v (.one (.yl (S.E.length + 1))) :: y.map .v)) 0, S.E ++ [.bk bD, .bk bl], .lp (S.E.length + 1) r .ready none :: .mk S.E.length false :: S.m, S.V, S.R⟩) :
    WN none rc.X.P (nOf rc.N fs) (.rangeFunc f ps a b) (QF rc.X.P rc.N M w0 Q0 fs) S.Td w := by
  obtain ⟨hB1, hB2⟩ := inlB_spec hB
  intro ac hac
  refine wpIn_rangeFunc fun fnid _ => ?_
  obtain ⟨e1, ⟨e2, e4⟩, e3⟩ := evS_eval hS hac hf
  have e3 : (svlt S.E.length x && svlt S.E.length y) = true := e3
  simp only [Bool.and_eq_true] at e3
  let r : Loop := { state := .ready, pending := none, fn := fnid, tmps := ac.tmps, params := ps, assign := a, body := b, defers := w.heap.size }
  let w1 : World := (w.alloc (.deferred (some []))).alloc (.loop r)
  let E1 : List Ad := S.E ++ [.bk w.heap.size, .bk (w.heap.size + 1)]
  have b1 : bno E1 (S.E.length + 1) = w.heap.size + 1 := by simp only [E1]; unfold bno; simp
  have b2 : bno E1 S.E.length = w.heap.size := by simp only [E1]; unfold bno; simp
  have i1 : isbk E1 (S.E.length + 1) = true := by simp only [E1]; unfold isbk; simp
  have i2 : isbk E1 S.E.length = true := by simp only [E1]; unfold isbk; simp
  have hlen : E1.length = S.E.length + 2 := by simp [E1]
  refine ⟨w.heap.size + 1, [mkD w.heap.size], w1, ⟨.fn (.func g) (y.map (SV.den S.E)).toArray, (x.map (SV.den S.E)).toArray ++ #[.func (.yield (w.heap.size + 1)) #[] #[]]⟩, w1, g, (x.map (SV.den S.E)).toArray ++ #[.func (.yield (w.heap.size + 1)) #[] #[]] ++ (y.map (SV.den S.E)).toArray, w1, run_enterLoop_outer fnid ac.tmps ps a b, ?_, fun _ _ => trivial, ?_, fun h => by simp [FR, Fence.wide] at h, ?_⟩
  · simp only [resolve, rangeCall, e1, TV.den, Deferred.ofValue]
    simp [Act.eval]
  · simp only [invoke]
    exact callFunc_run k2 _ _
  · refine Calls.toR none _ ?_
    have H1 : Hp M w0 w1 (.bk (w.heap.size + 1) (.loop r) :: .bk w.heap.size (.deferred (some [])) :: S.md) := by
      have := (H.new (.deferred (some []))).new (.loop r)
      have hsz : ({ w with heap := w.heap.push (.deferred (some [])) } : World).heap.size = w.heap.size + 1 := by simp
      rw [hsz] at this
      exact this
    have hW : (⟨argT (x.map .v ++ (.v (.one (.yl (S.E.length + 1))) :: y.map .v)) 0, E1, .lp (S.E.length + 1) r .ready none :: .mk S.E.length false :: S.m, S.V, S.R⟩ : SS FM).WF := by
      refine ⟨?_, ?_, ?_, ?_, ⟨trivial, trivial, hS.m⟩, ?_, vwf_ext hS.v⟩
      · simp only [mbk, Pc.bkok, i1, i2, Bool.true_and]; exact mbk_ext hS.b
      · show rwf E1.length S.R
        rw [hlen]; exact rwf_mono (by omega) hS.r
      · exact argT_wf (tvswf_append.2 ⟨tvs_of_sv e2, trivial, tvs_of_sv e4⟩)
      · show stlt E1.length _ = true
        rw [hlen]
        refine argT_lt ?_
        rw [tvslt_append]
        simp only [tvslt, TV.lt, SV.lt, S0.lt, tvs_of_lt (svlt_mono (show S.E.length ≤ S.E.length + 2 by omega) e3.1), tvs_of_lt (svlt_mono (show S.E.length ≤ S.E.length + 2 by omega) e3.2), Bool.true_and, Bool.and_true]
        exact Nat.blt_eq.mpr (by omega)
      · show mlt E1.length _ = true
        rw [hlen]
        simp only [mlt, Pc.lt, mlt_mono (show S.E.length ≤ S.E.length + 2 by omega) hS.ml, Bool.and_true, Bool.and_eq_true]
        exact ⟨Nat.blt_eq.mpr (by omega), Nat.blt_eq.mpr (by omega)⟩
    have hb := hR (.code c) (.rf S.T S.E g fn (S.E.length + 1) r (w.heap.size + 1) w.heap.size ps a b (nOf rc.N fs).n (keyB fs) :: fs) _ w1 (h w.heap.size (w.heap.size + 1) r) hW
      (hG.ext (S' := ⟨argT (x.map .v ++ (.v (.one (.yl (S.E.length + 1))) :: y.map .v)) 0 ++ S.T, E1, .lp (S.E.length + 1) r .ready none :: .mk S.E.length false :: S.m, S.V, S.R⟩) hS.r ⟨⟨_, rfl⟩, ⟨_, rfl⟩, rfl⟩)
      ⟨⟨⟨[], rfl⟩, rfl, hS.t, hS.tl, ⟨rfl, rfl, rfl, hac.2.1, hac.2.2⟩, rfl, hro, k4, k5⟩, hI.ext ⟨⟨[], rfl⟩, ⟨_, rfl⟩, rfl⟩⟩ (by
        show Hp M w0 w1 (mden E1 (.lp (S.E.length + 1) r .ready none :: .mk S.E.length false :: S.m))
        simp only [mden, Pc.den, b1, b2, cond_false]
        rw [show mden E1 S.m = S.md from mden_ext hS.ml]
        exact H1)
    have hb : WN none rc.X.P ⟨fn.ntmps, []⟩ c _ (tden E1 (argT _ 0)) w1 := hb
    rw [argT_den] at hb
    have ea : ((x.map TV.v ++ (.v (.one (.yl (S.E.length + 1))) :: y.map TV.v)).map (TV.den E1)).toArray = (x.map (SV.den S.E)).toArray ++ #[.func (.yield (w.heap.size + 1)) #[] #[]] ++ (y.map (SV.den S.E)).toArray := by
      have hx : ∀ q : List (SV FM), svlt S.E.length q = true → (q.map TV.v).map (TV.den E1) = q.map (SV.den S.E) := fun q hq => by
        rw [← svext (X := [Ad.bk w.heap.size, .bk (w.heap.size + 1)]) hq, List.map_map]; rfl
      rw [List.map_append, List.map_cons, hx x e3.1, hx y e3.2]
      simp [TV.den, SV.den, S0.den, b1]
    rw [← ea]
    refine (enterM hB1 hB2 (by simp; omega) hb).mono fun e w' he => ?_
    exact he ac hac
theorem as_ok {b : Code} {id l : Nat} (hS : S.WF) (H : Hp M w0 w S.md) (hG : RG M w0 S) (hI : InvF rc.N M w0 (.as b id l :: fs) S) (h : step rc R .nrm (.as b id l :: fs) S) :
    At (nOf rc.N fs) S.Td w (QF rc.X.P rc.N M w0 Q0 (.as b id l :: fs) .normal) := by
  simp only [step] at h
  split at h
  · rename_i k id' r pd hp
    obtain ⟨⟨h1, h2, h3⟩, h4⟩ := hI
    obtain ⟨q1, q2⟩ := lp_at hS H hp
    rw [← h1] at q1 q2
    obtain ⟨w1, w2⟩ := q2 .busy pd
    have := hR (.code b) fs _ _ h w1 hG (h4.ext ⟨⟨[], rfl⟩, ⟨[], by simp⟩, rfl⟩) w2
    intro a ha
    refine ⟨_, run_beginRound q1 rfl, ?_⟩
    have this : WN (roOf fs) _ _ _ _ _ _ := this
    rw [h3] at this
    exact this a ha
  · exact h.elim
theorem yd_ok {ops : Array Oper} {dr : Bool} {ov : List (Nat × Nat)} {rest : OT} {dst : Option Nat} {T : ST FM} {E : List Ad} {id l n kb k id' : Nat} {r : Loop} {st : LoopState} {pd : Option Code}
    (hS : S.WF) (H : Hp M w0 w S.md) (hG : RG M w0 S) (hI : InvF rc.N M w0 (.yd ops dr ov rest dst T E id l n kb :: fs) S) (hp : pcAt S.m id = some (k, .lp id' r st pd)) (j : Option Code)
    (h : R (.ops ops dr ov rest) fs ⟨setT T dst (some (.v (.one (.kb j.isNone)))), S.E, S.m.set k (.lp id r (if j.isNone then .ready else .done) j), S.V, S.R⟩) :
    ∃ v w', (Instr.endRound l j).run rc.X.P w = .ok v w' ∧ clR rc.X.P (nOf rc.N fs) ops (flR (roOf fs) dr ops ov) rest (tden E T) dst (QF rc.X.P rc.N M w0 Q0 fs) (.returned v) w' := by
  obtain ⟨⟨⟨X, h1⟩, h2, h3, h4, h6⟩, h5⟩ := hI
  have hl : E.length ≤ S.E.length := by rw [h1]; simp
  have hb : bno S.E id = l := by rw [h1, bno_ext h6, h4]
  obtain ⟨q1, q2⟩ := lp_at hS H hp
  rw [hb] at q1 q2
  obtain ⟨w1, w2⟩ := q2 (if j.isNone then .ready else .done) j
  have hW : (⟨setT T dst (some (.v (.one (.kb j.isNone)))), S.E, S.m.set k (.lp id r (if j.isNone then .ready else .done) j), S.V, S.R⟩ : SS FM).WF :=
    ⟨w1.b, w1.r, stwf_set h2 trivial, stlt_set (stlt_mono hl h3) rfl, w1.m, w1.ml, w1.v⟩
  have := hR (.ops ops dr ov rest) fs _ _ h hW hG (h5.ext ⟨setT_ext _ _ _, ⟨[], by simp⟩, rfl⟩) w2
  have this : WC _ _ _ _ _ _ (tden S.E (setT T dst (some _))) _ := this
  rw [tden_setT] at this
  have e3 : tden S.E T = tden E T := by rw [h1, tden_ext h3]
  rw [e3] at this
  exact ⟨_, _, run_endRound j q1, .inl ⟨_, rfl, this⟩⟩
theorem yield_ok {ops : Array Oper} {dr : Bool} {ov : List (Nat × Nat)} {i : Nat} {rest : OT} {o : Oper} {id : Nat} {l : List (TV FM)} {T0 : ST FM} {ps : Array Tmp} {a0 b0 : Code} {r : Loop} {bl n0 kb0 k id' : Nat}
    (hS : S.WF) (H : Hp M w0 w S.md) (hG : RG M w0 S) (hI : InvF rc.N M w0 fs S) (ho : ops[i]? = some o) (hd : dstOk (nOf rc.N fs) o.dst = true) (hg : gst S.T ops o = some .want) (hf : flR (roOf fs) dr ops ov i = 3)
    (hy : yldT rc.X S o = some (id, l)) (hrf : rfOf fs id = some (T0, ps, a0, b0, r, bl, n0, kb0)) (hp : pcAt S.m id = some (k, .lp id' r .ready none)) (hl : l.length = ps.size)
    (h : R (.code a0) (.as b0 id bl :: .yd ops dr ov rest o.dst S.T S.E id bl n0 kb0 :: fs) ⟨bindT ps.toList l T0, S.E, S.m, S.V, S.R⟩) :
    WC rc.X.P (nOf rc.N fs) ops (QF rc.X.P rc.N M w0 Q0 fs) (flR (roOf fs) dr ops ov) (.s i rest) S.Td w := by
  obtain ⟨c1, c2, c3, c4, c5, c6, c7, c8, c9, c10⟩ := rfOf_spec hI hrf
  obtain ⟨q1, -⟩ := lp_at hS H hp
  rw [c2] at q1
  refine wc_heap (opT_of (T := S.T) ho hd hg) (by rw [hf]; rfl) fun a ha => ?_
  unfold yldT at hy
  split at hy
  · rename_i c hop
    split at hy
    · rename_i f hc
      split at hy
      · rename_i id2 l2 hfv hlv
        simp only [Option.some.injEq, Prod.mk.injEq] at hy
        obtain ⟨rfl, rfl⟩ := hy
        obtain ⟨e1, -, -⟩ := evS_eval hS ha hfv
        obtain ⟨g1, g2, g3⟩ := evTvs_spec hS ha hlv
        have e1 : a.eval f = .func (.yield bl) #[] #[] := by rw [e1]; simp only [TV.den, SV.den, S0.den, c2]
        have hargs : c.args.map a.eval = (l2.map (TV.den S.E)).toArray := by rw [← g1, ← Array.toList_map]
        have hrun : (execOp a.eval o).run rc.X.P w = .ok (.round bl r.fn ((ps.zip (l2.map (TV.den S.E)).toArray).foldl (fun tmps (t, a) => tmps.setIfInBounds t a) r.tmps) a0 b0) w := by
          have hy := run_yield (P := rc.X.P) (args := (l2.map (TV.den S.E)).toArray) q1 (by simp [hl, c5])
          unfold execOp
          simp only [hop, resolve, hc, e1, Deferred.ofValue, hargs, Sem.run_bind, Sem.run_pure, Result.andThen_ok, invoke]
          rw [show (#[] : Array Value) ++ (l2.map (TV.den S.E)).toArray = (l2.map (TV.den S.E)).toArray by simp, hy]
          simp only [c5, c6, c7]
        have hT0 : Tm ⟨n0, []⟩ (tden S.E T0) { tmps := r.tmps, defers := [] } := ⟨rfl, c8, c9⟩
        obtain ⟨b1, b2, b3⟩ := bindT_spec (E := S.E) (ps := ps.toList) (l := l2) (T := T0) (N := ⟨n0, []⟩) (by simpa using hl) c10 g2 c3 g3 c4 hT0
        have hb := hR (.code a0) (.as b0 id2 bl :: .yd ops dr ov rest o.dst S.T S.E id2 bl n0 kb0 :: fs) ⟨bindT ps.toList l2 T0, S.E, S.m, S.V, S.R⟩ w h ⟨hS.b, hS.r, b1, b2, hS.m, hS.ml, hS.v⟩ hG
          ⟨⟨c2.symm, c1, rfl⟩, ⟨⟨[], by simp⟩, hS.t, hS.tl, c2.symm, c1⟩, hI⟩ H
        have hb : WN (some bl) rc.X.P ⟨n0, []⟩ a0 _ (tden S.E (bindT ps.toList l2 T0)) w := hb
        have hb := hb _ b3
        unfold operR
        rw [hrun]
        refine roundIn_of_wpIn trivial ?_
        have e2 : (ps.zip (l2.map (TV.den S.E)).toArray).foldl (fun tmps (t, a) => tmps.setIfInBounds t a) r.tmps = (ps.toList.zip (l2.map (TV.den S.E))).foldl (fun tmps (t, a) => tmps.setIfInBounds t a) r.tmps := by
          rw [← Array.foldl_toList, Array.toList_zip]
        rw [e2]
        refine wpIn_mono hb fun e a1 w1 he => ?_
        cases e with
        | normal =>
          obtain ⟨w2, h1, h2⟩ := he
          refine ⟨w2, h1, wpIn_mono h2 (roundPost_mono fun e w' hq => ?_)⟩
          rcases hq with ⟨v, rfl, hw⟩ | ⟨ch, rfl, hw⟩
          · exact ⟨fun hh => absurd (show (flR (roOf fs) dr ops ov) i ≤ 2 from hh) (by rw [hf]; decide), hw _ (ha.putT hd _)⟩
          · exact hw a ha
        | exit id => exact he.elim
        | goto l => exact he.elim
        | ret => exact he.elim
        | panic ch => exact he.elim
        | outgrown => exact he.elim
      · cases hy
    · cases hy
  · cases hy
end

theorem step_sound (rc : RC FM) (fn0 : Func) (Rp : Ending → World → Prop) (R : Pt → List (Fr FM) → SS FM → Prop)
    (hR : ∀ pt fs S w, R pt fs S → S.WF → RG M w0 S → InvF rc.N M w0 fs S → Hp M w0 w S.md → Goal (roOf fs) rc.X.P (nOf rc.N fs) (QF rc.X.P rc.N M w0 (bodyPostM (FR none) 0 rc.X.P fn0 Rp) fs) pt S w)
    (hfin : ∀ S w, rc.fin S → S.WF → RG M w0 S → Hp M w0 w S.md → ∀ (N : FN) a, Tm N S.Td a → ∃ v, (results fn0 a.tmps).run rc.X.P w = .ok v w ∧ Rp (.returned v) w) :
    ∀ pt fs S w, step rc R pt fs S → S.WF → RG M w0 S → InvF rc.N M w0 fs S → Hp M w0 w S.md → Goal (roOf fs) rc.X.P (nOf rc.N fs) (QF rc.X.P rc.N M w0 (bodyPostM (FR none) 0 rc.X.P fn0 Rp) fs) pt S w := by
  intro pt fs S w h hS hG hI H
  have kb : ∀ {x : Operand} {g b : Bool} {pt : Pt}, evS rc.X S none x = some (.v (.one (.xv (.bool g)))) → g = b → R pt fs (kbS S x b) → Goal (roOf fs) rc.X.P (nOf rc.N fs) (QF rc.X.P rc.N M w0 (bodyPostM (FR none) 0 rc.X.P fn0 Rp) fs) pt (kbS S x b) w := by
    intro x g b pt hx hg hr
    exact hR _ _ _ _ hr (kbS_wf hS) (hG.ext hS.r kbS_ext) (hI.ext kbS_ext) (by rw [kbS_md]; exact H)
  cases pt with
  | code c =>
    cases c with
    | skip => exact wn_skip rfl (hR .nrm fs S w h hS hG hI H)
    | seq a b =>
      simp only [step] at h
      split at h
      · exact wn_seq (c := .seq a b) rfl (hR (.code a) (.sq b :: fs) S w h hS hG hI H)
      · rename_i A hA
        obtain ⟨h1, h2⟩ := h
        refine fun ac hac => wpIn_seq (wpIn_mono ((hR (.code a) (.hd (A S) S (wrC a) none :: fs) S w h1 hS hG ⟨⟨(Ext.refl S).w, hS, hG⟩, hI⟩ H : WN _ _ _ _ _ _ _) ac hac) fun e a' w' he => ?_)
        cases e with
        | normal =>
          obtain ⟨y, hck, hT, q1, q2, hH, q3, -⟩ := he
          have h2 := h2 y
          rw [hck] at h2
          simp only [cond_true] at h2
          have h3 := impL_of h2 (All_append.2 ⟨sthy_iff.2 q1, All_append.2 ⟨mhy_iff.2 q2, q3⟩⟩)
          exact (hR (.code b) fs _ w' h3 (hd_wf hS hck q1 q2) (hG.ext hS.r hd_ext) (hI.ext hd_ext) hH : WN _ _ _ _ _ _ _) a' hT
        | _ => exact he
    | cond x a b =>
      simp only [step] at h
      split at h
      · rename_i hx
        obtain ⟨e1, -, -⟩ := evS_spec hS hx
        exact wn_condT (c := .cond x a b) x rfl e1 (hR (.code a) fs S w h hS hG hI H)
      · rename_i hx
        obtain ⟨e1, -, -⟩ := evS_spec hS hx
        exact wn_condF (c := .cond x a b) x rfl e1 (hR (.code b) fs S w h hS hG hI H)
      · rename_i g hx
        obtain ⟨e1, -, -⟩ := evS_spec hS hx
        refine wn_cond (c := .cond x a b) x g rfl e1 (fun hg => ?_) (fun hg => ?_)
        · exact WN.mono (kb hx hg (h.1 hg) : WN _ _ _ _ _ _ _) (kbS_look hS hx hg)
        · exact WN.mono (kb hx hg (h.2 hg) : WN _ _ _ _ _ _ _) (kbS_look hS hx hg)
      · exact h.elim
    | block i a => exact wn_block (c := .block i a) i rfl (hR (.code a) (.blk i :: fs) S w h hS hG hI H)
    | loop a =>
      simp only [step] at h
      split at h
      · exact h.elim
      · rename_i A hA
        obtain ⟨⟨y0, hy0⟩, h2⟩ := h
        have ck0 : (A S).ck S y0 = true ∧ (A S).ck1 S S [] y0 = true ∧ All ((A S).eqs S S y0 ++ (A S).inv y0) := by
          cases hc : (A S).ck S y0 && (A S).ck1 S S [] y0 with
          | false => rw [hc] at hy0; exact hy0.elim
          | true =>
            rw [hc] at hy0
            simp only [Bool.and_eq_true] at hc
            exact ⟨hc.1, hc.2, conj_iff.1 hy0⟩
        obtain ⟨c0, c1, hy0⟩ := ck0
        obtain ⟨hu, hi⟩ := All_append.1 hy0
        refine wn_loopS (c := .loop a) (fun y => ((A S).hd S (wrC a) y).Td) (fun y w' => (A S).ck S y = true ∧ stwf ((A S).T S.E.length y) ∧ mwf ((A S).m S.E.length y) ∧ Hp M w0 w' ((A S).hd S (wrC a) y).md ∧ All ((A S).inv y)) (A S).mu rfl (fun ac hac => ?_) (fun y w' hJ => ?_)
        · obtain ⟨t1, t2, t3, t4⟩ := to_head (ws := []) (Ext.refl S).w hS hS c1 hu H hac
          refine ⟨y0, ⟨t1.1, t1.2.1, fun t v ht => t1.2.2 t v ?_⟩, c0, t2, t3, t4, hi⟩
          -- what is not known any more was known
          show look (tden (S.E ++ (A S).E y0) ((A S).T S.E.length y0 ++ (unk [] ++ S.T))) t = some v
          have ht : look (tden (S.E ++ (A S).E y0) ((A S).T S.E.length y0 ++ (unk (wrC a) ++ S.T))) t = some v := ht
          rw [lookS_den] at ht ⊢
          cases hk : keyIn t ((A S).T S.E.length y0) with
          | true => rw [lookS_append_in hk] at ht ⊢; exact ht
          | false =>
            rw [lookS_append_out hk] at ht ⊢
            cases hk2 : memN t (wrC a) with
            | true =>
              rw [lookS_append_in (by rw [keyIn_unk]; exact hk2), lookS_unk] at ht
              cases ht
            | false =>
              rw [lookS_append_out (by rw [keyIn_unk]; exact hk2)] at ht
              exact ht
        · obtain ⟨j1, j2, j3, j4, j5⟩ := hJ
          have h2 := h2 y
          rw [j1] at h2
          simp only [cond_true] at h2
          have h3 := impL_of h2 (All_append.2 ⟨sthy_iff.2 j2, All_append.2 ⟨mhy_iff.2 j3, j5⟩⟩)
          have hb := hR (.code a) (.hd (A S) S (wrC a) (some ((A S).mu y)) :: fs) _ w' h3 (hd_wf hS j1 j2 j3) (hG.ext hS.r hd_ext) ⟨⟨hd_ext.w, hS, hG⟩, hI.ext hd_ext⟩ j4
          refine fun ac hac => wpIn_mono ((hb : WN _ _ _ _ _ _ _) ac hac) fun e a' w' he => ?_
          cases e with
          | normal =>
            obtain ⟨z, k1, k2, k3, k4, k5, k6, k7⟩ := he
            exact ⟨z, k2, ⟨k1, k3, k4, k5, k6⟩, k7 _ rfl⟩
          | _ => exact he
    | exit i => exact wn_exit (c := .exit i) i rfl (hR (.ext i) fs S w h hS hG hI H)
    | ret => exact wn_ret (c := .ret) rfl (hR .ret fs S w h hS hG hI H)
    | region id ops dr =>
      cases dr with
      | true =>
        simp only [step, cond_eq_ite] at h
        split at h
        · rename_i hc
          simp only [Bool.and_eq_true] at hc
          refine wn_regD (c := .region id ops true) (M := M) (w0 := w0) (m := S.md) (ovA rc id ops) (ordOf ops (flD true ops (ovA rc id ops))) ?_ H (fun w' H' => ?_)
          · simp only [isReg, drawOf, opsOf, hc.1.1.1, hc.1.1.2, hc.1.2, hc.2, Bool.and_self]
          · exact hR (.ops ops true (ovA rc id ops) (ordOf ops (flD true ops (ovA rc id ops)))) (.np :: fs) S w' h hS hG hI H'
        split at h
        · rename_i hc
          simp only [Bool.and_eq_true] at hc
          have hc := hc.2
          refine wn_regD (c := .region id ops true) (M := M) (w0 := w0) (m := S.md) (ldOv 0 ops.toList ++ ovA rc id ops) (ordOf ops (flD true ops (ldOv 0 ops.toList ++ ovA rc id ops))) ?_ H (fun w' H' => ?_)
          · simp only [isReg, drawOf, opsOf, hc.1.1.1, hc.1.1.2, hc.1.2, hc.2, Bool.and_self]
          · exact hR (.ops ops true (ldOv 0 ops.toList ++ ovA rc id ops) (ordOf ops (flD true ops (ldOv 0 ops.toList ++ ovA rc id ops)))) (.np :: fs) S w' h hS hG hI H'
        split at h
        · rename_i hc
          exact dreg_ok hS hG H hc h fun S' w' h0 h1 h2 h3 h4 => hR .nrm (.np :: fs) S' w' h0 h1 h2 (hI.ew h4) h3
        · exact h.elim
      | false =>
        simp only [step, cond_eq_ite] at h
        split at h
        · rename_i hnd
          refine wn_regO (c := .region id ops false) (ovA rc id ops) ops.size (by simp [isReg, drawOf, opsOf, hnd]) ?_
          exact hR (.ops ops false (ovA rc id ops) (rng 0 ops.size)) fs S w h hS hG hI H
        · exact h.elim
    | scope a => exact h.elim
    | rangeFunc f ps a b =>
      simp only [step] at h
      split at h
      · rename_i g x y hf
        split at h
        · rename_i fn c hB
          simp only [cond_eq_ite] at h
          split at h
          · rename_i hk
            simp only [Bool.and_eq_true] at hk
            obtain ⟨⟨⟨⟨k1, k2⟩, k3⟩, k4⟩, k5⟩ := hk
            have hro := Option.isNone_iff_eq_none.1 k1
            rw [hro]
            exact rf_ok hR hS H hG hI hro k2 (Nat.le_of_ble_eq_true k3) (beq_n k4) k5 hf hB h
          · exact h.elim
        · exact h.elim
      · exact h.elim
    | label l => exact h.elim
    | goto l => exact h.elim
    | refuse s => exact h.elim
  | ops ops dr ov t =>
    cases t with
    | nil =>
      obtain ⟨s1, s2, s3, s4⟩ := srtS_ok (dr := dr) (ops := ops) hS H
      have := hR .nrm fs (srtS dr ops S) w h s1 (hG.ext hS.r s3) (hI.ext s3) s2
      have this : At _ (srtS dr ops S).Td _ _ := this
      rw [s4] at this
      exact wc_nil rfl this
    | br t u => exact wc_br rfl (hR (.ops ops dr ov t) fs S w h.1 hS hG hI H) (hR (.ops ops dr ov u) fs S w h.2 hS hG hI H)
    | s i rest =>
      simp only [step] at h
      split at h
      · exact h.elim
      rename_i o ho
      simp only [cond_eq_ite] at h
      split at h
      · exact h.elim
      rename_i hd
      have hd : dstOk (nOf rc.N fs) o.dst = true := by simpa using hd
      have hfd : (flR (roOf fs) dr ops ov).d = no := rfl
      -- a test that is not known, either way
      have ask : ∀ {t : Nat} {g b : Bool}, lookS S.T t = some (.v (.one (.xv (.bool g)))) → g = b → R (.ops ops dr ov (.s i rest)) fs { S with T := kbT S.T t b } → WC rc.X.P (nOf rc.N fs) ops (QF rc.X.P rc.N M w0 (bodyPostM (FR none) 0 rc.X.P fn0 Rp) fs) (flR (roOf fs) dr ops ov) (.s i rest) S.Td w := by
        intro t g b hl hg hr
        have hx := withT_ext (S := S) (T := kbT S.T t b) ⟨[(t, some (.v (.one (.kb b))))], rfl⟩
        have := hR _ _ _ w hr (hS.withT (kbT_wf hS.t t b) (kbT_lt hS.tl t b)) (hG.ext hS.r hx) (hI.ext hx) H
        exact WC.mono (this : WC _ _ _ _ _ _ _ _) (fun s v hs => kbT_look (E := S.E) (look_of hl) hg s v hs)
      split at h
      · exact h.elim
      · rename_i hg
        have hx := withT_ext (S := S) (T := setT S.T o.dst (skV ops i)) (setT_ext _ _ _)
        exact wc_skipS (E := S.E) (T := S.T) ho hd hg (hR (.ops ops dr ov rest) fs { S with T := setT S.T o.dst (skV ops i) } w h (hS.withT (stwf_set hS.t (skV_wf _ _)) (stlt_set hS.tl (skV_lt _ _ _))) (hG.ext hS.r hx) (hI.ext hx) H)
      · rename_i t g hg
        have hl := gst_ask (E := S.E) hg
        have sp : (g = true → R (.ops ops dr ov (.s i rest)) fs { S with T := kbT S.T t true }) ∧ (g = false → R (.ops ops dr ov (.s i rest)) fs { S with T := kbT S.T t false }) → WC rc.X.P (nOf rc.N fs) ops (QF rc.X.P rc.N M w0 (bodyPostM (FR none) 0 rc.X.P fn0 Rp) fs) (flR (roOf fs) dr ops ov) (.s i rest) S.Td w := by
          intro h
          cases hgb : g with
          | true => exact ask hl hgb (h.1 hgb)
          | false => exact ask hl hgb (h.2 hgb)
        split at h
        · rename_i k hk
          split at h
          · rename_i φ T' hq
            obtain ⟨hφ, h⟩ := andL_iff.1 h
            obtain ⟨g0, g1, g2, g4, g5⟩ := qrun_ok (Q := QF rc.X.P rc.N M w0 (bodyPostM (FR none) 0 rc.X.P fn0 Rp) fs) hS (hG.hs H) hfd _ _ _ _ _ _ hq hφ hS.t hS.tl
            have hx := withT_ext (S := S) (T := T') (qrun_suf _ _ _ _ _ _ hq)
            exact g5 (hR (.ops ops dr ov (dropO (k + 1) (.s i rest))) fs { S with T := T' } w h (hS.withT g1 g2) (hG.ext hS.r hx) (hI.ext hx) H)
          · exact sp h
        · exact sp h
      · rename_i hg
        split at h
        · rename_i c a b hop
          split at h
          · rename_i v hv
            split at h
            · rename_i hf
              obtain ⟨q1, q2, q3⟩ := pickQ_ok (Q := QF rc.X.P rc.N M w0 (bodyPostM (FR none) 0 rc.X.P fn0 Rp) fs) (w := w) (rest := rest) hS hS.t hS.tl ho hd hg hf hop hv
              have hW : (putS S o.dst v []).WF := wr_top hS q1 (by simpa using q2) (by simpa using hS.v)
              have := hR (.ops ops dr ov rest) fs (putS S o.dst v []) w h hW (hG.ext hS.r putS_ext) (hI.ext putS_ext) (by rw [putS_md hS]; exact H)
              refine q3 ?_
              have this : WC _ _ _ _ _ _ _ _ := this
              rw [putS_Td hS] at this
              simp only [List.map_nil, List.append_nil] at this
              exact this
            · exact h.elim
          · split at h
            · rename_i g hl
              cases hgb : g with
              | true => exact ask hl hgb (h.1 hgb)
              | false => exact ask hl hgb (h.2 hgb)
            · exact h.elim
        · rename_i ty y z hop
          split at h
          · rename_i φ S' hs
            split at h
            · rename_i hf
              obtain ⟨hφ, h⟩ := andL_iff.1 h
              have h : R (.ops ops dr ov rest) fs S' := by
                split at h
                · rename_i l f hn
                  have := h l rfl
                  rwa [nmS_spec hn] at this
                · exact h
              obtain ⟨s1, s2, s3, s4, s5⟩ := stS_ok (Q := QF rc.X.P rc.N M w0 (bodyPostM (FR none) 0 rc.X.P fn0 Rp) fs) (rest := rest) hS H ho hd hg (beq_n hf) hs hφ
              have hx : Ext S S' := ⟨⟨[], by rw [s2]; rfl⟩, ⟨[], by rw [s3]; simp⟩, s4⟩
              refine s5 fun w' H' => ?_
              have := hR (.ops ops dr ov rest) fs S' w' h s1 (hG.ext hS.r hx) (hI.ext hx) H'
              have this : WC _ _ _ _ _ _ S'.Td _ := this
              have hTd : S'.Td = S.Td := by unfold SS.Td; rw [s2, s3]
              rw [hTd] at this; exact this
            · exact h.elim
          · split at h
            · rename_i φ j l g hx
              split at h
              · rename_i hf
                obtain ⟨hφ, h⟩ := andL_iff.1 h
                obtain ⟨S2, h2, hp⟩ := Option.bind_eq_some_iff.1 hx
                obtain ⟨t1, t2, t3, t4, t5⟩ := dfzQ_ok hS H h2
                have hTd2 : S2.Td = S.Td := by unfold SS.Td; rw [t1, t2]
                obtain ⟨s1, s2, s3, s4, s5⟩ := putQ_ok (Q := QF rc.X.P rc.N M w0 (bodyPostM (FR none) 0 rc.X.P fn0 Rp) fs) (rest := rest) t4 t5 ho hd (by rw [t1]; exact hg) (beq_n hf) hp hφ
                have h := h l rfl
                have hx : Ext S (g l) := ⟨⟨[], by rw [s2, t1]; rfl⟩, ⟨[], by rw [s3, t2]; simp⟩, by rw [s4, t3]⟩
                rw [hTd2] at s5
                refine s5 fun w' H' => ?_
                have := hR (.ops ops dr ov rest) fs (g l) w' h s1 (hG.ext hS.r hx) (hI.ext hx) H'
                have this : WC _ _ _ _ _ _ (g l).Td _ := this
                have hTd : (g l).Td = S.Td := by unfold SS.Td; rw [s2, s3, t1, t2]
                rw [hTd] at this; exact this
              · exact h.elim
            · exact h.elim
        · rename_i x hop
          split at h
          · rename_i ty v hv
            split at h
            · rename_i hf
              refine wc_heap (opT_of (T := S.T) ho hd hg) (by rw [beq_n hf]; rfl) fun a ha => ?_
              obtain ⟨e1, -, -⟩ := evS_eval hS ha hv
              unfold operR execOp
              simp only [hop, e1, TV.den, SV.den, S0.den]
              exact (hR (.pan (.xv (.iface ty v))) fs S w h hS hG hI H : At _ _ _ _) a ha
            · exact h.elim
          · exact h.elim
        · exact newP_ok hS H hG hI ho hd hg hR h
        · exact newP_ok hS H hG hI ho hd hg hR h
        · split at h
          · rename_i g hx
            split at h
            · rename_i hf
              exact mkM_ok hS H ho hd hg hf hx fun b w' h2 h3 H' => hR (.ops ops dr ov rest) fs (g b) w' (h b) h2 (hG.ext hS.r h3) (hI.ext h3) H'
            · exact h.elim
          · exact h.elim
        · split at h
          · rename_i v hx
            split at h
            · rename_i hf
              obtain ⟨q1, q2, q3⟩ := lookM_ok (Q := QF rc.X.P rc.N M w0 (bodyPostM (FR none) 0 rc.X.P fn0 Rp) fs) (rest := rest) hS H ho hd hg (beq_n hf) hfd hx
              have hW : (putS S o.dst v []).WF := wr_top hS q1 (by simpa using q2) (by simpa using hS.v)
              have := hR (.ops ops dr ov rest) fs (putS S o.dst v []) w h hW (hG.ext hS.r putS_ext) (hI.ext putS_ext) (by rw [putS_md hS]; exact H)
              refine q3 ?_
              have this : WC _ _ _ _ _ _ _ _ := this
              rw [putS_Td hS] at this
              simp only [List.map_nil, List.append_nil] at this
              exact this
            · exact h.elim
          · exact h.elim
        · split at h
          · rename_i φ S' hx
            split at h
            · rename_i hf
              obtain ⟨hφ, h⟩ := h
              obtain ⟨s1, s2, s3, s4, s5⟩ := putM_ok (Q := QF rc.X.P rc.N M w0 (bodyPostM (FR none) 0 rc.X.P fn0 Rp) fs) (rest := rest) hS H ho hd hg (beq_n hf) hx hφ
              have hx : Ext S S' := ⟨⟨[], by rw [s2]; rfl⟩, ⟨[], by rw [s3]; simp⟩, s4⟩
              refine s5 fun w' H' => ?_
              have := hR (.ops ops dr ov rest) fs S' w' h s1 (hG.ext hS.r hx) (hI.ext hx) H'
              have this : WC _ _ _ _ _ _ S'.Td _ := this
              have hTd : S'.Td = S.Td := by unfold SS.Td; rw [s2, s3]
              rw [hTd] at this; exact this
            · exact h.elim
          · exact h.elim
        · exact newP_ok hS H hG hI ho hd hg hR h
        · split at h
          · rename_i φ v x y hq
            split at h
            · rename_i hf
              obtain ⟨hφ, h⟩ := andL_iff.1 h
              obtain ⟨⟨q1, q2, q3, q4⟩, q5⟩ := dld_ok (Q := QF rc.X.P rc.N M w0 (bodyPostM (FR none) 0 rc.X.P fn0 Rp) fs) (rest := rest) hS (hG.hs H).2 ho hd hg (beq_n hf) hfd hq hφ
              have hl : (S.E ++ x).length = S.E.length + x.length := by simp
              have hw : (⟨setT S.T o.dst (some (.v v)), S.E ++ x, S.m, S.V, y ++ S.R⟩ : SS FM).WF := by
                refine ⟨mbk_ext hS.b, ?_, stwf_set hS.t q1, ?_, hS.m, ?_, vwf_ext hS.v⟩
                · show rwf (S.E ++ x).length (y ++ S.R)
                  rw [hl]; exact rwf_append.2 ⟨q3, rwf_mono (by omega) hS.r⟩
                · show stlt (S.E ++ x).length (setT S.T o.dst (some (.v v))) = true
                  rw [hl]; exact stlt_set (stlt_mono (by omega) hS.tl) q2
                · show mlt (S.E ++ x).length S.m = true
                  rw [hl]; exact mlt_mono (by omega) hS.ml
              have hg' : RG M w0 (⟨setT S.T o.dst (some (.v v)), S.E ++ x, S.m, S.V, y ++ S.R⟩ : SS FM) := fun w' H' => ROk_append.2 ⟨q4 w' (hG w' H'), ROk_ext hS.r (hG w' H')⟩
              have := hR (.ops ops dr ov rest) fs ⟨setT S.T o.dst (some (.v v)), S.E ++ x, S.m, S.V, y ++ S.R⟩ w h hw hg' (hI.ew ⟨setT_ext _ _ _, ⟨x, rfl⟩⟩) (by show Hp M w0 w (mden (S.E ++ x) S.m); rw [mden_ext hS.ml]; exact H)
              refine q5 ?_
              have this : WC _ _ _ _ _ _ (tden (S.E ++ x) (setT S.T o.dst (some (.v v)))) _ := this
              rw [tden_setT, tden_ext hS.tl] at this
              exact this
            · exact h.elim
          split at h
          · rename_i φ al hq
            split at h
            · rename_i hf
              obtain ⟨hφ, h⟩ := andL_iff.1 h
              obtain ⟨S', h', q1, q2, q3, q4, q5⟩ := dldM_ok (Q := QF rc.X.P rc.N M w0 (bodyPostM (FR none) 0 rc.X.P fn0 Rp) fs) (rest := rest) hS H (hG.hs H).2 ho hd hg (beq_n hf) hfd hq hφ h
              exact q5 (hR (.ops ops dr ov rest) fs S' w h' q1 (fun w' H' => q2 w' (hG w' H')) (hI.ew q4) q3)
            · exact h.elim
          split at h
          · rename_i φ v x hq
            have hq := stepN_some hq
            split at h
            · rename_i hf
              obtain ⟨hφ, h⟩ := andL_iff.1 h
              simp only [Bool.or_eq_true] at hf
              obtain ⟨q1, q2, q3, q4⟩ := stepQ_wc3 (Q := QF rc.X.P rc.N M w0 (bodyPostM (FR none) 0 rc.X.P fn0 Rp) fs) (rest := rest) hS (hG.hs H) ho hd hg hf hfd hq hφ
              have := hR (.ops ops dr ov rest) fs (putS S o.dst v x) w h (wr_top hS q1 q2 q3) (hG.ext hS.r putS_ext) (hI.ext putS_ext) (by rw [putS_md hS]; exact H)
              refine q4 ?_
              have this : WC _ _ _ _ _ _ _ _ := this
              rw [putS_Td hS] at this
              exact this
            · exact h.elim
          · split at h
            · rename_i φ0 S2 hq
              split at h
              · rename_i φ hy g hx
                split at h
                · rename_i hf
                  obtain ⟨hφ0, h⟩ := andL_iff.1 h
                  obtain ⟨hφ, h⟩ := andL_iff.1 h
                  obtain ⟨hT, hE, hR2, hS2, H2⟩ := dapQ_ok hS H hq hφ0
                  have hx2 : Ext S S2 := ⟨⟨[], by rw [hT]; rfl⟩, ⟨[], by rw [hE]; simp⟩, hR2⟩
                  have hg2 : gst S2.T ops o = some .want := by rw [hT]; exact hg
                  have hTd : S2.Td = S.Td := by unfold SS.Td; rw [hT, hE]
                  have go : ∀ A q w', All (hy q) → (g A q).WF → Ext S2 (g A q) → Hp M w0 w' (g A q).md → WC rc.X.P (nOf rc.N fs) ops (QF rc.X.P rc.N M w0 (bodyPostM (FR none) 0 rc.X.P fn0 Rp) fs) (flR (roOf fs) dr ops ov) rest (g A q).Td w' :=
                    fun A q w' h1 h2 h3 H' => hR (.ops ops dr ov rest) fs (g A q) w' (impL_of (h A q) h1) h2 (hG.ext hS.r (hx2.trans h3)) (hI.ext (hx2.trans h3)) H'
                  show WC rc.X.P (nOf rc.N fs) ops (QF rc.X.P rc.N M w0 (bodyPostM (FR none) 0 rc.X.P fn0 Rp) fs) (flR (roOf fs) dr ops ov) (.s i rest) S.Td w
                  rw [← hTd]
                  have hG2 : RG M w0 S2 := hG.ext hS.r hx2
                  unfold appQ at hx
                  split at hx
                  · rename_i y z t t' hop
                    simp only [cond_eq_ite] at hx
                    split at hx
                    · rename_i htt
                      have := beq_n htt; subst this
                      exact appX_ok hS2 (hG2.hs H2) ho hd hg2 (beq_n hf) hop hx hφ go
                    · exact azX_ok hS2 (hG2.hs H2) ho hd hg2 (beq_n hf) hop hx hφ go
                  · cases hx
                · exact h.elim
              · exact h.elim
            split at h
            · rename_i φ hy g hx
              split at h
              · rename_i hf
                obtain ⟨hφ, h⟩ := andL_iff.1 h
                have go : ∀ A q w', All (hy q) → (g A q).WF → Ext S (g A q) → Hp M w0 w' (g A q).md → WC rc.X.P (nOf rc.N fs) ops (QF rc.X.P rc.N M w0 (bodyPostM (FR none) 0 rc.X.P fn0 Rp) fs) (flR (roOf fs) dr ops ov) rest (g A q).Td w' :=
                  fun A q w' h1 h2 h3 H' => hR (.ops ops dr ov rest) fs (g A q) w' (impL_of (h A q) h1) h2 (hG.ext hS.r h3) (hI.ext h3) H'
                unfold appQ at hx
                split at hx
                · rename_i y z t t' hop
                  simp only [cond_eq_ite] at hx
                  split at hx
                  · rename_i htt
                    have := beq_n htt; subst this
                    exact appX_ok hS (hG.hs H) ho hd hg (beq_n hf) hop hx hφ go
                  · exact azX_ok hS (hG.hs H) ho hd hg (beq_n hf) hop hx hφ go
                · cases hx
              · exact h.elim
            split at h
            · rename_i φ g hx
              split at h
              · rename_i hf
                obtain ⟨hφ, h⟩ := andL_iff.1 h
                unfold mkQ at hx
                split at hx
                · rename_i t y z hop
                  exact mkX_ok hS (hG.hs H) ho hd hg hf hop hx hφ fun A w' h2 h3 H' => hR (.ops ops dr ov rest) fs (g A) w' (h A) h2 (hG.ext hS.r h3) (hI.ext h3) H'
                · cases hx
              · exact h.elim
            split at h
            · rename_i φ S' hx
              split at h
              · rename_i hf
                obtain ⟨hφ, h⟩ := andL_iff.1 h
                unfold cpQ at hx
                split at hx
                · rename_i y z t t' hop
                  simp only [cond_eq_ite] at hx
                  split at hx
                  · rename_i htt
                    have := beq_n htt; subst this
                    exact cpX_ok hS (hG.hs H) ho hd hg (beq_n hf) hop hx hφ fun w' h2 h3 H' => hR (.ops ops dr ov rest) fs S' w' h h2 (hG.ext hS.r h3) (hI.ext h3) H'
                  · cases hx
                · cases hx
              · exact h.elim
            split at h
            · rename_i φ v hx
              split at h
              · rename_i hf
                obtain ⟨hφ, h⟩ := andL_iff.1 h
                unfold bsQ at hx
                split at hx
                · rename_i src dst y hop
                  obtain ⟨q1, q2, q3⟩ := bsX_ok (Q := QF rc.X.P rc.N M w0 (bodyPostM (FR none) 0 rc.X.P fn0 Rp) fs) (rest := rest) hS (hG.hs H) hfd ho hd hg (beq_n hf) hop hx hφ
                  have hW : (putS S o.dst v []).WF := wr_top hS q1 (by simpa using q2) (by simpa using hS.v)
                  have := hR (.ops ops dr ov rest) fs (putS S o.dst v []) w h hW (hG.ext hS.r putS_ext) (hI.ext putS_ext) (by rw [putS_md hS]; exact H)
                  refine q3 ?_
                  have this : WC _ _ _ _ _ _ _ _ := this
                  rw [putS_Td hS] at this
                  simp only [List.map_nil, List.append_nil] at this
                  exact this
                · cases hx
              · exact h.elim
            split at h
            · rename_i f l hc
              split at h
              · rename_i φ p hp
                split at h
                · rename_i hk
                  simp only [Bool.and_eq_true] at hk
                  obtain ⟨hφ, h⟩ := andL_iff.1 h
                  refine wc_callS hS (hG.hs H) ho hd hg hk.1.1 hc hk.2 hk.1.2 hp hφ fun y w' f1 f2 f3 H' => ?_
                  have h := h y
                  split at h
                  · rename_i hck
                    simp only [wfck, Bool.and_eq_true] at hck
                    have h := impL_of h (All_append.2 ⟨TV.hy_iff.2 f1, All_append.2 ⟨mhy_iff.2 f2, f3⟩⟩)
                    have hW := add_wf (d := o.dst) hS (TV.sh_wf.2 f1) hck.1.1 (msh_wf.2 f2) hck.1.2 hck.2
                    obtain ⟨kp, kw⟩ := (nrmF_ok (w := w') (w0 := w0) (M := M) (E := S.E ++ p.E y) (m := msh S.E.length (p.m y) ++ S.m)).2
                    have hx := add_ext (S := S) (d := o.dst) (v := (p.ret y).sh S.E.length) (E := p.E y) (m := msh S.E.length (p.m y))
                    have := hR (.ops ops dr ov rest) fs _ w' h ⟨kp.2 hW.b, hW.r, hW.t, hW.tl, kw hW.m, kp.1 hW.ml, hW.v⟩ (hG.ext hS.r ⟨hx.t, hx.e, hx.r⟩) (hI.ext ⟨hx.t, hx.e, hx.r⟩) (nrmF_ok.1 H')
                    have this : WC _ _ _ _ _ _ (tden _ (setT S.T o.dst (some _))) _ := this
                    rw [tden_setT, tden_ext hS.tl] at this
                    exact this
                  · exact h.elim
                · exact h.elim
              · split at h
                · rename_i fn c hB
                  split at h
                  · rename_i hk
                    simp only [Bool.and_eq_true] at hk
                    have hf3 := beq_n hk.1.1.1
                    have hB2 := inlB_spec hB
                    refine wc_heap (opT_of (T := S.T) ho hd hg) (by rw [hf3]; rfl) fun a ha => ?_
                    obtain ⟨r1, r2, r3⟩ := callT_run hS ha hc hk.1.1.2 w
                    unfold operR
                    rw [r1]
                    have hb := hR (.code c) (.cl ops dr ov rest o.dst S.T S.E f fn :: fs) ⟨argT l 0, S.E, S.m, S.V, S.R⟩ w h ⟨hS.b, hS.r, argT_wf r2, argT_lt r3, hS.m, hS.ml, hS.v⟩ hG ⟨⟨⟨[], by simp⟩, hS.t, hS.tl, Nat.le_of_ble_eq_true hk.2⟩, hI⟩ H
                    have hb : WN _ _ _ _ _ (tden S.E (argT l 0)) _ := hb
                    rw [argT_den] at hb
                    refine (enterM hB2.1 hB2.2 (by rw [List.length_map]; exact Nat.le_of_ble_eq_true hk.1.2) hb).mono fun e w' hR => ?_
                    rcases hR with ⟨v, rfl, hw⟩ | ⟨ch, rfl, hw⟩
                    · exact ⟨fun hh => absurd (show (flR (roOf fs) dr ops ov) i ≤ 2 from hh) (by rw [hf3]; decide), hw _ (ha.putT hd _)⟩
                    · exact hw a ha
                  · exact h.elim
                · exact h.elim
            · split at h
              · rename_i id l hyl
                split at h
                · rename_i T0 ps a0 b0 r0 bl n0 kb0 k id' r hrf hp
                  split at h
                  · rename_i hk
                    simp only [Bool.and_eq_true] at hk
                    obtain ⟨rfl, h⟩ := h
                    exact yield_ok hR hS H hG hI ho hd hg (beq_n hk.1) hyl hrf hp (beq_n hk.2) h
                  · exact h.elim
                · exact h.elim
              · exact h.elim
  | nrm =>
    cases fs with
    | nil =>
        intro a ha
        show LeavesInM (FR none) 0 rc.X.P fn0 a.tmps Rp a.defers .returning w
        rw [show a.defers = [] from ha.1]
        exact leavesN (hfin S w h hS hG H _ a ha)
    | cons f fs =>
      cases f with
      | sq c => exact n_sq (hR (.code c) fs S w h hS hG hI H)
      | blk i => exact n_blk (hR .nrm fs S w h hS hG hI H)
      | np => exact n_np (hR .nrm fs S w h hS hG hI H)
      | hd L S0 ws m0 =>
        obtain ⟨⟨hx, hS0, hG0⟩, hI⟩ := hI
        obtain ⟨y, hy⟩ := h
        intro a ha
        have ck : L.ck S0 y = true ∧ L.ck1 S0 S ws y = true ∧ All (L.eqs S0 S y ++ (L.inv y ++ muL L m0 y)) := by
          cases hc : L.ck S0 y && L.ck1 S0 S ws y with
          | false => rw [hc] at hy; exact hy.elim
          | true =>
            rw [hc] at hy
            simp only [Bool.and_eq_true] at hc
            exact ⟨hc.1, hc.2, conj_iff.1 hy⟩
        obtain ⟨c0, c1, hy⟩ := ck
        obtain ⟨hu, hy⟩ := All_append.1 hy
        obtain ⟨hi, hm⟩ := All_append.1 hy
        obtain ⟨t1, t2, t3, t4⟩ := to_head hx hS0 hS c1 hu H ha
        refine ⟨y, c0, t1, t2, t3, t4, hi, fun n hn => ?_⟩
        subst hn
        exact hm.1
      | cl ops dr ov rest dst T E g fn =>
        intro a ha
        show LeavesInM (FR none) 0 rc.X.P fn a.tmps _ a.defers .returning w
        rw [show a.defers = [] from ha.1]
        exact leavesN (clEnd_ok hR hS H hG hI h a ha)
      | rf T E g fn id r bl bD ps a b n kb => exact rfEnd_ok hR hS H hG hI h .normal (.inl rfl)
      | as b id l => exact as_ok hR hS H hG hI h
      | yd ops dr ov rest dst T E id l n kb =>
        simp only [step] at h
        split at h
        · rename_i k id' r st pd hp
          exact fun a _ => yd_ok hR hS H hG hI hp none h
        · exact h.elim
      | df ds ids =>
        cases fs with
        | nil =>
          simp only [step] at h
          split at h
          · rename_i m hm
            exact fin_ok hfin hS H hG hI hm h
          · exact h.elim
        | cons f fs =>
          cases f with
          | sq c => exact n_sq (hR (.code c) (.df ds ids :: fs) S w h hS hG hI H)
          | blk i => exact n_blk (i := i) (hR .nrm (.df ds ids :: fs) S w h hS hG hI H)
          | np => exact (hR .nrm (.df ds ids :: fs) S w h hS hG hI H : At _ _ _ _)
          | df ds' ids' =>
            have := hR .nrm (.df (ds ++ ds') (ids ++ ids') :: fs) S w h hS hG (df_merge hI) H
            simpa only [Goal, nOf, QF, List.append_assoc] using this
          | cl ops dr ov rest dst T E g fn =>
            simp only [step] at h
            split at h
            · rename_i m hm
              exact dfcl_ok hR hS H hG hI hm h
            · exact h.elim
          | hd => exact h.elim
          | rf => exact h.elim
          | yd => exact h.elim
          | as => exact h.elim
  | ext i =>
    cases fs with
    | nil => exact h.elim
    | cons f fs =>
      cases f with
      | sq c => exact e_sq (hR (.ext i) fs S w h hS hG hI H)
      | blk j =>
        simp only [step, cond_eq_ite] at h
        split at h
        · rename_i hij
          have := beq_n hij; subst this
          exact e_blk (hR .nrm fs S w h hS hG hI H)
        · rename_i hij
          refine e_blkn ?_ (hR (.ext i) fs S w h hS hG hI H)
          cases e : i == j with
          | false => rfl
          | true => exact absurd (by simpa using e) (fun e : i = j => hij (by subst e; exact Nat.beq_refl i))
      | np => exact e_np (hR (.ext i) fs S w h hS hG hI H)
      | hd L S0 ws m0 => exact e_then (hR (.ext i) fs S w h hS hG hI.2 H)
      | yd ops dr ov rest dst T E id l n kb =>
        simp only [step] at h
        split at h
        · rename_i k id' r st pd hp
          exact fun a _ => yd_ok hR hS H hG hI hp (some (.exit i)) h
        · exact h.elim
      | cl => exact h.elim
      | rf => exact h.elim
      | as => exact h.elim
      | df ds ids =>
        cases fs with
        | nil => exact h.elim
        | cons f fs =>
          cases f with
          | sq c => exact (hR (.ext i) (.df ds ids :: fs) S w h hS hG hI H : At _ _ _ _)
          | blk j =>
            simp only [step, cond_eq_ite] at h
            split at h
            · rename_i hij
              have := beq_n hij; subst this
              exact e_blk (hR .nrm (.df ds ids :: fs) S w h hS hG hI H)
            · rename_i hij
              refine e_blkn ?_ (hR (.ext i) (.df ds ids :: fs) S w h hS hG hI H)
              cases e : i == j with
              | false => rfl
              | true => exact absurd (by simpa using e) (fun e : i = j => hij (by subst e; exact Nat.beq_refl i))
          | np => exact (hR (.ext i) (.df ds ids :: fs) S w h hS hG hI H : At _ _ _ _)
          | hd L S0 ws m0 => exact (hR (.ext i) (.df ds ids :: fs) S w h hS hG ⟨hI.1, hI.2.2⟩ H : At _ _ _ _)
          | df ds' ids' =>
            have := hR (.ext i) (.df (ds ++ ds') (ids ++ ids') :: fs) S w h hS hG (df_merge hI) H
            simpa only [Goal, nOf, QF, List.append_assoc] using this
          | cl => exact h.elim
          | rf => exact h.elim
          | yd => exact h.elim
          | as => exact h.elim
  | ret =>
    cases fs with
    | nil =>
        intro a ha
        show LeavesInM (FR none) 0 rc.X.P fn0 a.tmps Rp a.defers .returning w
        rw [show a.defers = [] from ha.1]
        exact leavesN (hfin S w h hS hG H _ a ha)
    | cons f fs =>
      cases f with
      | sq c => exact r_sq (hR .ret fs S w h hS hG hI H)
      | blk j => exact r_blk (hR .ret fs S w h hS hG hI H)
      | np => exact r_np (hR .ret fs S w h hS hG hI H)
      | hd L S0 ws m0 => exact r_then (hR .ret fs S w h hS hG hI.2 H)
      | cl ops dr ov rest dst T E g fn =>
        intro a ha
        show LeavesInM (FR none) 0 rc.X.P fn a.tmps _ a.defers .returning w
        rw [show a.defers = [] from ha.1]
        exact leavesN (clEnd_ok hR hS H hG hI h a ha)
      | rf T E g fn id r bl bD ps a b n kb => exact rfEnd_ok hR hS H hG hI h .ret (.inr rfl)
      | as => exact h.elim
      | yd ops dr ov rest dst T E id l n kb =>
        simp only [step] at h
        split at h
        · rename_i k id' r st pd hp
          exact fun a _ => yd_ok hR hS H hG hI hp (some .ret) h
        · exact h.elim
      | df ds ids =>
        cases fs with
        | nil =>
          simp only [step] at h
          split at h
          · rename_i m hm
            exact fin_ok hfin hS H hG hI hm h
          · exact h.elim
        | cons f fs =>
          cases f with
          | sq c => exact (hR .ret (.df ds ids :: fs) S w h hS hG hI H : At _ _ _ _)
          | blk j => exact (hR .ret (.df ds ids :: fs) S w h hS hG hI H : At _ _ _ _)
          | np => exact (hR .ret (.df ds ids :: fs) S w h hS hG hI H : At _ _ _ _)
          | hd L S0 ws m0 => exact (hR .ret (.df ds ids :: fs) S w h hS hG ⟨hI.1, hI.2.2⟩ H : At _ _ _ _)
          | df ds' ids' =>
            have := hR .ret (.df (ds ++ ds') (ids ++ ids') :: fs) S w h hS hG (df_merge hI) H
            simpa only [Goal, nOf, QF, List.append_assoc] using this
          | cl ops dr ov rest dst T E g fn =>
            simp only [step] at h
            split at h
            · rename_i m hm
              exact dfcl_ok hR hS H hG hI hm h
            · exact h.elim
          | rf => exact h.elim
          | yd => exact h.elim
          | as => exact h.elim
  | pan v =>
    cases fs with
    | nil => exact h.elim
    | cons f fs =>
      cases f with
      | sq c => exact (hR (.pan v) fs S w h hS hG hI H : At _ _ _ _)
      | blk j => exact (hR (.pan v) fs S w h hS hG hI H : At _ _ _ _)
      | hd L S0 ws m0 => exact (hR (.pan v) fs S w h hS hG hI.2 H : At _ _ _ _)
      | cl ops dr ov rest dst T E g fn =>
        intro a ha
        show LeavesInM (FR none) 0 rc.X.P fn a.tmps _ a.defers (.panicking (pch (v.den S.E))) w
        rw [show a.defers = [] from ha.1]
        obtain ⟨⟨⟨X, h1⟩, h2, h3, h4⟩, h5⟩ := hI
        have hl : E.length ≤ S.E.length := by rw [h1]; simp
        have hW : (⟨T, S.E, S.m, S.V, S.R⟩ : SS FM).WF := ⟨hS.b, hS.r, h2, stlt_mono hl h3, hS.m, hS.ml, hS.v⟩
        have := hR (.pan v) fs ⟨T, S.E, S.m, S.V, S.R⟩ w h hW hG h5 H
        have this : At _ (tden S.E T) _ _ := this
        have e3 : tden S.E T = tden E T := by rw [h1, tden_ext h3]
        rw [e3] at this
        exact .inr ⟨_, rfl, this⟩
      | np => exact h.elim
      | df => exact h.elim
      | rf => exact h.elim
      | yd => exact h.elim
      | as => exact h.elim

theorem run_sound (rc : RC FM) (fn0 : Func) (Rp : Ending → World → Prop)
    (hfin : ∀ S w, rc.fin S → S.WF → RG M w0 S → Hp M w0 w S.md → ∀ (N : FN) a, Tm N S.Td a → ∃ v, (results fn0 a.tmps).run rc.X.P w = .ok v w ∧ Rp (.returned v) w) :
    ∀ f pt fs S w, run rc f pt fs S → S.WF → RG M w0 S → InvF rc.N M w0 fs S → Hp M w0 w S.md → Goal (roOf fs) rc.X.P (nOf rc.N fs) (QF rc.X.P rc.N M w0 (bodyPostM (FR none) 0 rc.X.P fn0 Rp) fs) pt S w := by
  intro f
  induction f with
  | zero => intro pt fs S w h; exact h.elim
  | succ f ih => intro pt fs S w h; exact step_sound rc fn0 Rp (run rc f) ih hfin pt fs S w h

/-! ### The end -/
inductive PK (w : World) (m : Mem) : List (Option Nat) → Mem → Prop where
  | nil : PK w m [] []
  | some {k : Nat} {e e' : Ent} {ks : List (Option Nat)} {m' : Mem} : m[k]? = some e → (∀ w G, e.on w G → e'.on w G) → PK w m ks m' → PK w m (some k :: ks) (e' :: m')
  | none {e' : Ent} {ks : List (Option Nat)} {m' : Mem} : e'.on w no → PK w m ks m' → PK w m (none :: ks) (e' :: m')
theorem Sep.ofPK {w : World} {m : Mem} {Gs : Nat → Nat → Prop} (h1 : ∀ (i : Nat) (e : Ent), m[i]? = some e → e.on w (Gs i)) (h3 : ∀ i j k, Gs i k → Gs j k → i = j) {ks : List (Option Nat)} {m' : Mem} (h : PK w m ks m') :
    ∀ {F : Nat → Prop}, nodupO ks = true → (∀ k, some k ∈ ks → ∀ j, Gs k j → F j) → Sep w m' F := by
  induction h with
  | nil => intro F _ _; trivial
  | some hk he _ ih =>
    rename_i k e e' ks m' _
    intro F hn hF
    simp only [nodupO, Bool.and_eq_true, Bool.not_eq_true'] at hn
    refine ⟨Gs k, he w _ (h1 k e hk), hF k (by simp), ih hn.2 fun i hi j hj => ⟨hF i (by simp [hi]) j hj, fun hkj => ?_⟩⟩
    have := h3 i k j hj hkj
    subst this
    have : ks.contains (some i) = true := by simpa using hi
    rw [this] at hn; cases hn.1
  | none he _ ih =>
    intro F hn hF
    exact ⟨no, he, fun _ h => h.elim, (ih (F := F) (by simpa [nodupO] using hn) fun i hi j hj => hF i (by simp [hi]) j hj).mono fun k hk => ⟨hk, fun h => h⟩⟩
theorem Hp.ofPK {w : World} {m m' : Mem} (H : Hp M w0 w m) {ks : List (Option Nat)} (h : PK w m ks m') (hn : nodupO ks = true) : Hp M w0 w m' := by
  obtain ⟨Gs, g1, g2, g3⟩ := H.sep.fam
  exact ⟨H.os, H.tape, H.output, H.size, H.old, Sep.ofPK g1 g3 h hn fun k _ j hj => g2 k j hj⟩

theorem agree0 {E F : List Ad} : Agree 0 E F := fun i hi => by omega

theorem noF_dRd {c : Ce FM} (h : noF c = true) (w : World) : dRd w c := noF_spec h
theorem rsM_spec {E F : List Ad} {mp : List (Nat × Option Nat)} {rs : List (Nat × Ce FM)} (hw : rswf rs) : ∀ {r : List (Nat × Ce FM)} {φ : List Prop}, rsM E F mp rs r = some φ → All φ → (∀ w', ROk E w' rs → ROk F w' r) ∧ rswf r
  | [], φ, _, _ => ⟨fun _ _ => trivial, trivial⟩
  | (id, c) :: r, φ, h, hφ => by
    simp only [rsM, cond_eq_ite] at h
    split at h
    · rename_i hn
      split at h
      · rename_i i φ' hi hr
        split at h
        · rename_i d hd
          simp only [Option.some.injEq] at h; subst h
          obtain ⟨h1, h2⟩ := hφ
          obtain ⟨h2, h3⟩ := All_append.1 h2
          obtain ⟨g1, g2⟩ := rsM_spec hw hr h3
          obtain ⟨u1, u2⟩ := uC_spec agree0 h2
          have hdw : cwf d := by
            have key : ∀ {rs : List (Nat × Ce FM)}, rswf rs → rAt rs i = some d → cwf d := by
              intro rs
              induction rs with
              | nil => intro _ h; simp [rAt] at h
              | cons p rs ih =>
                intro hw h
                simp only [rAt, cond_eq_ite] at h
                split at h
                · simp only [Option.some.injEq] at h; subst h; exact hw.1
                · exact ih hw.2 h
            exact key hw hd
          exact ⟨fun w' hw' => ⟨⟨by rw [← h1, ← u1]; exact rAt_rd hd hw', noF_dRd hn w'⟩, g1 w' hw'⟩, u2.1 hdw, g2⟩
        · cases h
      · rename_i φ' hi hr
        simp only [Option.some.injEq] at h; subst h
        obtain ⟨h2, h3⟩ := All_append.1 hφ
        obtain ⟨g1, g2⟩ := rsM_spec hw hr h3
        obtain ⟨q1, q2⟩ := nilC_spec (E := F) h2
        exact ⟨fun w' hw' => ⟨⟨by rw [q1]; exact Rd.nil _ _, noF_dRd hn w'⟩, g1 w' hw'⟩, q2, g2⟩
      · cases h
    · cases h
theorem selM_spec {S : SS FM} (hS : S.WF) {F : List Ad} {mp : List (Nat × Option Nat)} {w : World} : ∀ {qs : List (Pc FM)} {ψ : List Prop} {ks : List (Option Nat)}, selM S F mp qs = some (ψ, ks) → All ψ → PK w S.md ks (mden F qs) ∧ mwf qs
  | [], ψ, ks, h, _ => by
    simp only [selM, Option.some.injEq, Prod.mk.injEq] at h
    obtain ⟨rfl, rfl⟩ := h
    exact ⟨.nil, trivial⟩
  | .fz rs ds :: r, ψ, ks, h, hψ => by
    simp only [selM] at h
    split at h
    · rename_i φ ks' hr
      split at h
      · rename_i k rs0 ds0 hp
        obtain ⟨k', hk, hp⟩ := Option.bind_eq_some_iff.1 hp
        obtain ⟨p', hp', hp⟩ := Option.map_eq_some_iff.1 hp
        simp only [Prod.mk.injEq] at hp
        obtain ⟨rfl, rfl⟩ := hp
        obtain ⟨χ, hχ, h⟩ := Option.map_eq_some_iff.1 h
        simp only [Prod.mk.injEq] at h
        obtain ⟨rfl, rfl⟩ := h
        obtain ⟨h0, h1⟩ := All_append.1 hψ
        obtain ⟨h1, h2⟩ := All_append.1 h1
        obtain ⟨g1, g2⟩ := selM_spec hS hr h2
        obtain ⟨c1, c2⟩ := rsM_spec (show rswf rs0 from mwf_at hS.m hp') hχ h0
        exact ⟨.some (mden_at (E := S.E) hp') (fun w G hG w' hw' => ⟨c1 w' (hG w' hw').1, dsSub_spec (hG w' hw').2 h1⟩) g1, c2, g2⟩
      · cases h
      · obtain ⟨χ, hχ, h⟩ := Option.map_eq_some_iff.1 h
        simp only [Prod.mk.injEq] at h
        obtain ⟨rfl, rfl⟩ := h
        obtain ⟨h0, h1⟩ := All_append.1 hψ
        obtain ⟨h1, h2⟩ := All_append.1 h1
        obtain ⟨g1, g2⟩ := selM_spec hS hr h2
        obtain ⟨c1, c2⟩ := rsM_spec (E := S.E) (rs := []) trivial hχ h0
        exact ⟨.none (fun w' _ => ⟨c1 w' trivial, dsNil_spec h1⟩) g1, c2, g2⟩
    · cases h
  | .sl id n cap c e s :: r, ψ, ks, h, hψ => by
    simp only [selM] at h
    split at h
    · rename_i i φ ks' hi hr
      split at h
      · rename_i k p hp
        simp only [Option.some.injEq, Prod.mk.injEq] at h
        obtain ⟨rfl, rfl⟩ := h
        obtain ⟨h1, h2⟩ := All_append.1 hψ
        obtain ⟨g1, g2⟩ := selM_spec hS hr h2
        obtain ⟨p1, p2, -⟩ := pcAt_spec (E := S.E) hp
        obtain ⟨q1, q2⟩ := uP_spec agree0 h1
        exact ⟨.some p2 q1 g1, q2 (mwf_at hS.m p1), g2⟩
      · cases h
    · rename_i φ ks' hi hr
      simp only [Option.some.injEq, Prod.mk.injEq] at h
      obtain ⟨rfl, rfl⟩ := h
      obtain ⟨h1, h2, h3, h4⟩ := hψ
      obtain ⟨h4, h5⟩ := All_append.1 h4
      obtain ⟨g1, g2⟩ := selM_spec hS hr h5
      obtain ⟨q1, q2⟩ := nilC_spec (E := F) h4
      refine ⟨.none ?_ g1, q2, g2⟩
      subst h2 h3
      simp only [Pc.den, h1, q1]
      exact ⟨World.ownsRow_nil w 0 e s, fun a ha => by cases ha⟩
    · cases h
  | .rd id c :: r, ψ, ks, h, hψ => by
    simp only [selM] at h
    split at h
    · rename_i i φ ks' hi hr
      split at h
      · rename_i k p hp
        simp only [Option.some.injEq, Prod.mk.injEq] at h
        obtain ⟨rfl, rfl⟩ := h
        obtain ⟨h1, h2⟩ := All_append.1 hψ
        obtain ⟨g1, g2⟩ := selM_spec hS hr h2
        obtain ⟨p1, p2, -⟩ := pcAt_spec (E := S.E) hp
        obtain ⟨q1, q2⟩ := uP_spec agree0 h1
        exact ⟨.some p2 q1 g1, q2 (mwf_at hS.m p1), g2⟩
      · cases h
    · rename_i φ ks' hi hr
      simp only [Option.some.injEq, Prod.mk.injEq] at h
      obtain ⟨rfl, rfl⟩ := h
      obtain ⟨h4, h5⟩ := All_append.1 hψ
      obtain ⟨g1, g2⟩ := selM_spec hS hr h5
      obtain ⟨q1, q2⟩ := nilC_spec (E := F) h4
      refine ⟨.none ?_ g1, q2, g2⟩
      simp only [Pc.den, q1]
      exact fun w' _ => Rd.nil _ _
    · cases h
  | .bk id c ty :: r, ψ, ks, h, hψ => by
    simp only [selM] at h
    split at h
    · rename_i i φ ks' hi hr
      split at h
      · rename_i k p hp
        simp only [Option.some.injEq, Prod.mk.injEq] at h
        obtain ⟨rfl, rfl⟩ := h
        obtain ⟨h1, h2⟩ := All_append.1 hψ
        obtain ⟨g1, g2⟩ := selM_spec hS hr h2
        obtain ⟨p1, p2, -⟩ := pcAt_spec (E := S.E) hp
        obtain ⟨q1, q2⟩ := uP_spec agree0 h1
        exact ⟨.some p2 q1 g1, q2 (mwf_at hS.m p1), g2⟩
      · cases h
    · rename_i φ ks' hi hr
      cases h
    · cases h
  | .pr _ :: r, ψ, ks, h, hψ => by
    simp only [selM] at h
    split at h
    · rename_i i φ ks' hi hr
      split at h
      · rename_i k p hp
        simp only [Option.some.injEq, Prod.mk.injEq] at h
        obtain ⟨rfl, rfl⟩ := h
        obtain ⟨h1, h2⟩ := All_append.1 hψ
        obtain ⟨g1, g2⟩ := selM_spec hS hr h2
        obtain ⟨p1, p2, -⟩ := pcAt_spec (E := S.E) hp
        obtain ⟨q1, q2⟩ := uP_spec agree0 h1
        exact ⟨.some p2 q1 g1, q2 (mwf_at hS.m p1), g2⟩
      · cases h
    · rename_i φ ks' hi hr
      cases h
    · cases h
  | .lp id x st pd :: r, ψ, ks, h, hψ => by
    simp only [selM] at h
    split at h
    · rename_i i φ ks' hi hr
      split at h
      · rename_i k p hp
        simp only [Option.some.injEq, Prod.mk.injEq] at h
        obtain ⟨rfl, rfl⟩ := h
        obtain ⟨h1, h2⟩ := All_append.1 hψ
        obtain ⟨g1, g2⟩ := selM_spec hS hr h2
        obtain ⟨p1, p2, -⟩ := pcAt_spec (E := S.E) hp
        obtain ⟨q1, q2⟩ := uP_spec agree0 h1
        exact ⟨.some p2 q1 g1, q2 (mwf_at hS.m p1), g2⟩
      · cases h
    · rename_i φ ks' hi hr
      cases h
    · cases h
  | .mk id b :: r, ψ, ks, h, hψ => by
    simp only [selM] at h
    split at h
    · rename_i i φ ks' hi hr
      split at h
      · rename_i k p hp
        simp only [Option.some.injEq, Prod.mk.injEq] at h
        obtain ⟨rfl, rfl⟩ := h
        obtain ⟨h1, h2⟩ := All_append.1 hψ
        obtain ⟨g1, g2⟩ := selM_spec hS hr h2
        obtain ⟨p1, p2, -⟩ := pcAt_spec (E := S.E) hp
        obtain ⟨q1, q2⟩ := uP_spec agree0 h1
        exact ⟨.some p2 q1 g1, q2 (mwf_at hS.m p1), g2⟩
      · cases h
    · rename_i φ ks' hi hr
      cases h
    · cases h
  | .mp id n l :: r, ψ, ks, h, hψ => by
    simp only [selM] at h
    split at h
    · rename_i i φ ks' hi hr
      split at h
      · rename_i k p hp
        simp only [Option.some.injEq, Prod.mk.injEq] at h
        obtain ⟨rfl, rfl⟩ := h
        obtain ⟨h1, h2⟩ := All_append.1 hψ
        obtain ⟨g1, g2⟩ := selM_spec hS hr h2
        obtain ⟨p1, p2, -⟩ := pcAt_spec (E := S.E) hp
        obtain ⟨q1, q2⟩ := uP_spec agree0 h1
        exact ⟨.some p2 q1 g1, q2 (mwf_at hS.m p1), g2⟩
      · cases h
    · rename_i φ ks' hi hr
      cases h
    · cases h

theorem finS_ok {X : Cx} {fn : Func} {rs : List ResultVar} (hr : fn.results = rs.toArray) {p : PS FM} {S : SS FM} {w : World} (h : finS X rs p S) (hS : S.WF) (H : HS M w0 w S) :
    ∀ (N : FN) a, Tm N S.Td a → ∃ v, (results fn a.tmps).run X.P w = .ok v w ∧ p.R M w0 (.returned v) w := by
  unfold finS at h
  split at h
  · rename_i φ vs hq
    simp only [cond_eq_ite] at h
    split at h
    · exact h.elim
    rename_i hl
    have hl : rs.length ≤ 4 := by simpa using hl
    obtain ⟨hφ, y, h⟩ := andL_iff.1 h
    obtain ⟨g1, g2, -⟩ := resQ_spec hS H hq hφ
    split at h
    · rename_i ψ ks hs
      split at h
      · rename_i hn
        obtain ⟨h1, h2⟩ := All_append.1 (conj_iff.1 h)
        obtain ⟨h2, h3⟩ := All_append.1 h2
        obtain ⟨v1, v2⟩ := uV_spec agree0 h1
        obtain ⟨kp, kw⟩ := (nrmF_ok (w := w) (w0 := w0) (M := M) (E := S.E) (m := S.m)).2
        have hS2 : (nrmS S).WF := ⟨kp.2 hS.b, hS.r, hS.t, hS.tl, kw hS.m, kp.1 hS.ml, hS.v⟩
        have H2 : Hp M w0 w (nrmS S).md := nrmF_ok.1 H.hp
        obtain ⟨k1, k2⟩ := selM_spec hS2 (w := w) hs h2
        have hR : p.R M w0 (.returned ((tupS vs).den S.E)) w := ⟨y, by rw [v1], v2 (tupS_wf g2), k2, H2.ofPK k1 hn, h3⟩
        rw [← tupS_den] at hR
        exact fun N a ha => ⟨_, resL hr hl g1 a ha, hR⟩
      · exact h.elim
    · exact h.elim
  · exact h.elim

/-! ### A function's contract -/
theorem plain_one {v : Value} (h : plain v = true) : v.oneCell' = true := by
  cases v <;> first | rfl | exact h | simp [plain] at h
theorem Sg.ok_mono {n m : Nat} {s : Sg FM} (h : s.ok n = true) (hm : n ≤ m) : s.ok m = true := by
  cases s with
  | b s => exact Sg0.ok_mono h hm
  | f j l k => rfl
theorem cm_wf {c : Cm} {x : c.T FM} {n : Nat} (h : All (c.hy x)) : (c.sg n x).wf ∧ (c.sg n x).ok (n + (c.bd n x).1.length) = true ∧ rwf (n + (c.bd n x).1.length) (c.bd n x).2 := by
  have hlt : Nat.blt n (n + 1) = true := Nat.blt_eq.mpr (by omega)
  cases c with
  | int k => exact ⟨trivial, rfl, trivial⟩
  | boo => exact ⟨trivial, rfl, trivial⟩
  | arr k m => exact ⟨h.1, rfl, trivial⟩
  | rcs j m => exact ⟨⟨h.1, h.2.1⟩, rfl, trivial⟩
  | sli k => exact ⟨trivial, hlt, ⟨⟨hlt, ⟨rfl, trivial⟩, rfl⟩, trivial⟩⟩
  | slr j => exact ⟨trivial, hlt, ⟨⟨hlt, ⟨⟨rfl, h.1⟩, trivial⟩, rfl⟩, trivial⟩⟩
  | str => exact ⟨trivial, rfl, trivial⟩
  | any => exact ⟨trivial, by simp only [Cm.sg, Sg.ok, Sg0.ok, S0.ok, S0.lt, plain_one h.1, Bool.and_self], trivial⟩
  | ptr k m => exact ⟨trivial, by simp [Cm.sg, Cm.bd, Sg.ok, Sg0.ok, S0.ok, S0.lt], ⟨⟨by simp [Cm.bd], ⟨h.1, trivial⟩, rfl⟩, trivial⟩⟩
theorem cs_wf : ∀ {l : List Cm} {x : CsT FM l} {n : Nat}, All (csHy l x) → cwf (csSg l x n) ∧ cok (n + (csBd l x n).1.length) (csSg l x n) = true ∧ rwf (n + (csBd l x n).1.length) (csBd l x n).2
  | [], _, _, _ => ⟨trivial, rfl, trivial⟩
  | c :: r, x, n, h => by
    obtain ⟨h1, h2⟩ := All_append.1 h
    obtain ⟨g1, g2, g3⟩ := cs_wf (l := r) (x := x.2) (n := n + (c.bd n x.1).1.length) h2
    obtain ⟨o1, o2, o3⟩ := cm_wf (n := n) h1
    have hl : n + (csBd (c :: r) x n).1.length = n + (c.bd n x.1).1.length + (csBd r x.2 (n + (c.bd n x.1).1.length)).1.length := by
      simp only [csBd, List.length_append, Nat.add_assoc]
    rw [hl]
    refine ⟨⟨o1, g1⟩, ?_, ?_⟩
    · simp only [csSg, cok, g2, Bool.and_true]
      exact Sg.ok_mono o2 (by omega)
    · simp only [csBd]
      exact rwf_append.2 ⟨rwf_mono (by omega) o3, g3⟩
theorem tvOf_wf {s : Sg FM} {n : Nat} (h : s.wf) (hk : s.ok n = true) : (tvOf s).wf ∧ (tvOf s).lt n = true := by
  unfold tvOf
  split
  · simp only [Sg.ok, Sg0.ok, Bool.and_eq_true] at hk
    exact ⟨trivial, hk.2⟩
  · exact ⟨⟨h, trivial⟩, by show (_ && true) = true; rw [hk]; rfl⟩
theorem arg_wf {a : Arg} {x : a.T FM} {n : Nat} (h : All (sgHy [a] (x, ()))) : (a.tv n x).wf ∧ (a.tv n x).lt (n + (a.bd n x).1.length) = true ∧ rwf (n + (a.bd n x).1.length) (a.bd n x).2 := by
  cases a with
  | one c =>
    have h : All (c.hy x) := (All_append.1 h).1
    obtain ⟨o1, o2, o3⟩ := cm_wf (n := n) h
    obtain ⟨t1, t2⟩ := tvOf_wf o1 o2
    exact ⟨t1, t2, o3⟩
  | ag l =>
    have h : All (csHy l x) := (All_append.1 h).1
    obtain ⟨o1, o2, o3⟩ := cs_wf (n := n) h
    exact ⟨o1, o2, o3⟩
theorem sg_wf : ∀ {l : List Arg} {x : SgT FM l} {n : Nat}, All (sgHy l x) → tvswf (sgTv l x n) ∧ tvslt (n + (sgBd l x n).1.length) (sgTv l x n) = true ∧ rwf (n + (sgBd l x n).1.length) (sgBd l x n).2
  | [], _, _, _ => ⟨trivial, rfl, trivial⟩
  | a :: r, x, n, h => by
    have h12 : All (sgHy [a] (x.1, ())) ∧ All (sgHy r x.2) := by
      cases a with
      | one c => obtain ⟨h1, h2⟩ := All_append.1 h; exact ⟨All_append.2 ⟨h1, trivial⟩, h2⟩
      | ag l => obtain ⟨h1, h2⟩ := All_append.1 h; exact ⟨All_append.2 ⟨h1, trivial⟩, h2⟩
    obtain ⟨g1, g2, g3⟩ := sg_wf (l := r) (x := x.2) (n := n + (a.bd n x.1).1.length) h12.2
    obtain ⟨o1, o2, o3⟩ := arg_wf (n := n) h12.1
    have hl : n + (sgBd (a :: r) x n).1.length = n + (a.bd n x.1).1.length + (sgBd r x.2 (n + (a.bd n x.1).1.length)).1.length := by
      simp only [sgBd, List.length_append, Nat.add_assoc]
    rw [hl]
    refine ⟨⟨o1, g1⟩, ?_, ?_⟩
    · simp only [sgTv, tvslt, g2, Bool.and_true]
      exact TV.lt_mono o2 (by omega)
    · simp only [sgBd]
      exact rwf_append.2 ⟨rwf_mono (by omega) o3, g3⟩

/-- The first state of a call. -/
def S0of (sig : List Arg) (x : SgT FM sig) : SS FM := ⟨argT (sgTv sig x 0) 0, (sgBd sig x 0).1, [], [], (sgBd sig x 0).2⟩
/-- What must be shown of a function's code. -/
def vc (X : Cx) (N : Nat) (cons : List (Con X.P FM)) (La Ca : List (Nat × (SS FM → HA FM))) (ov : List (Nat × List (Nat × Nat))) (inl : List Nat) (rs : List ResultVar) (sig : List Arg) (pre : SgT FM sig → List Prop) (post : SgT FM sig → PS FM) (c : Code) (fuel : Nat) (x : SgT FM sig) : Prop :=
  impL (sgHy sig x ++ pre x) (run ⟨X, N, cons, La, Ca, ov, finS X rs (post x), inl⟩ fuel (.code c) [] (S0of sig x))

/-- A statement that is not looked into. -/
structure Vc (p : Prop) : Prop where
  ok : p

theorem vc_ok {X : Cx} {N : Nat} {cons : List (Con X.P FM)} {ov : List (Nat × List (Nat × Nat))} {inl : List Nat} {rs : List ResultVar} {sig : List Arg} {La Ca : SgT FM sig → List (Nat × (SS FM → HA FM))} {pre : SgT FM sig → List Prop} {post : SgT FM sig → PS FM} {c : Code} (fuel : Nat) {f : FuncId} {fn : Func}
    (hf : X.P.funcs[f]? = some fn) (hb : fn.body = some c) (hN : fn.ntmps = N) (hr : fn.results = rs.toArray) (hs : Nat.ble sig.length N = true) (h : ∀ x, Vc (vc X N cons (La x) (Ca x) ov inl rs sig pre post c fuel x)) (w : World) (x : SgT FM sig) (h1 : All (sgHy sig x))
    (h2 : ROk (sgBd sig x 0).1 w (sgBd sig x 0).2) (h3 : All (pre x)) : Calls X.P f ((sgTv sig x 0).map (TV.den (sgBd sig x 0).1)).toArray w ((post x).R no w) := by
  have hlen : ∀ {l : List Arg} {x : SgT FM l} {n : Nat}, (sgTv l x n).length = l.length := by
    intro l
    induction l with
    | nil => intro x n; rfl
    | cons a l ih => intro x n; simp only [sgTv, List.length_cons, ih]
  subst hN
  refine enterM hf hb (by rw [List.length_map, hlen]; exact Nat.le_of_ble_eq_true hs) ?_
  obtain ⟨w1, w2, w3⟩ := sg_wf (n := 0) h1
  rw [Nat.zero_add] at w2 w3
  have hS : (S0of sig x).WF := ⟨rfl, w3, argT_wf w1, argT_lt w2, trivial, rfl, trivial⟩
  have hG : RG no w (S0of sig x) := by
    intro w' H
    have key : ∀ {E : List Ad} {r : List (Nat × Ce FM)}, ROk E w r → ROk E w' r := by
      intro E r
      induction r with
      | nil => intro _; trivial
      | cons p r ih => intro h; exact ⟨⟨h.1.1.keep H.keep, h.1.2.keep H.keep⟩, ih h.2⟩
    exact key h2
  have := run_sound (M := no) (w0 := w) ⟨X, fn.ntmps, cons, La x, Ca x, ov, finS X rs (post x), inl⟩ fn ((post x).R no w) (fun S w' hfn hS hG H => finS_ok hr hfn hS (hG.hs H)) fuel (.code c) [] (S0of sig x) w (impL_of (h x).ok (All_append.2 ⟨h1, h3⟩)) hS hG trivial (Hp.start w)
  have this : WN _ _ _ _ _ (tden _ (argT (sgTv sig x 0) 0)) w := this
  rw [argT_den] at this
  exact this
end
end Go.Px
