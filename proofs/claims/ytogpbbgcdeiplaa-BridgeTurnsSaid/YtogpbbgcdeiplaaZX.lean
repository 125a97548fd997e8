/-
  Slices that grow, that are made, copied, turned to texts: that these operations do what was computed. No condition.
-/
import Derived.Test.YtogpbbgcdeiplaaZG
set_option linter.all false
namespace Go.Px
open Go.RowKit

section
variable {FM : Nat → Fm}
variable {X : Cx} {N : FN} {ops : Array Oper} {fl : FL} {S : SS FM} {Q : Exit → Act → World → Prop} {w : World} {M : Nat → Prop} {w0 : World}

theorem cnt_spec {E : List Ad} {N : Nat} {sz m : Nat} {c : Ce FM} (h : cnt sz c = some m) (hw : cwf c) : (cden E c).length = m * sz ∧ cok N c = true := by
  unfold cnt at h
  split at h
  · simp only [cond_eq_ite] at h
    split at h
    · rename_i hs
      have := beq_n hs; subst this
      simp only [Option.some.injEq] at h; subst h
      exact ⟨by rw [clen hw]; simp [cn, Sg.n, Sg0.n], rfl⟩
    · cases h
  · simp only [cond_eq_ite] at h
    split at h
    · rename_i hs
      have := beq_n hs; subst this
      simp only [Option.some.injEq] at h; subst h
      exact ⟨by rw [clen hw]; simp [cn, Sg.n], rfl⟩
    · cases h
  · cases h

theorem slR_spec (hS : S.WF) (H : HS M w0 w S) {sz n : Nat} {v : TV FM} {c : Ce FM} {φ : List Prop} (h : slR S sz v = some (c, n, φ)) (hφ : All φ) :
    (∃ B q, v.den S.E = .slice B n q ∧ Rd w B (cden S.E c)) ∧ cwf c ∧ (cden S.E c).length = n * sz ∧ ∀ N, cok N c = true := by
  unfold slR at h
  split at h
  · rename_i id o n' q t
    obtain ⟨⟨c', φ'⟩, hc, h⟩ := Option.bind_eq_some_iff.1 h
    obtain ⟨m, hm, h⟩ := Option.map_eq_some_iff.1 h
    simp only [Prod.mk.injEq] at h
    obtain ⟨rfl, rfl, rfl⟩ := h
    obtain ⟨rfl, hφ⟩ := hφ
    obtain ⟨q1, q2⟩ := arC_spec hS H hc hφ
    obtain ⟨g1, -⟩ := cnt_spec (E := S.E) (N := 0) hm q2
    exact ⟨⟨_, _, rfl, q1⟩, q2, g1, fun N => (cnt_spec (E := S.E) (N := N) hm q2).2⟩
  · cases h

theorem isNil_den {E : List Ad} {u : TV FM} (h : isNil u = true) : u.den E = .slice none 0 0 := by
  unfold isNil at h
  split at h
  · rfl
  · cases h

theorem capp_spec {E : List Ad} {N : Nat} {x y r : Ce FM} (h : capp x y = some r) (hx : cwf x) (hy : cwf y) : cden E r = cden E x ++ cden E y ∧ cwf r ∧ cok N r = true := by
  unfold capp at h
  split at h
  · rename_i k l m k' l' m'
    simp only [cond_eq_ite] at h
    split at h
    · rename_i hk
      have := of_decide_eq_true hk; subst this
      simp only [Option.some.injEq] at h; subst h
      have h1 : l.length = m := hx.1
      have h2 : l'.length = m' := hy.1
      exact ⟨by simp [cden, Sg.den, Sg0.den, iv], ⟨by simp [Sg.wf, Sg0.wf, h1, h2], trivial⟩, rfl⟩
    · cases h
  · rename_i j l m j' l' m'
    split at h
    · rename_i hj
      subst hj
      simp only [Option.some.injEq] at h; subst h
      obtain ⟨h1, h3⟩ := hx.1
      obtain ⟨h2, h4⟩ := hy.1
      refine ⟨by simp [cden, Sg.den, fden_append], ⟨⟨by simp [h1, h2], fun a ha => ?_⟩, trivial⟩, rfl⟩
      rcases List.mem_append.1 ha with ha | ha
      · exact h3 a ha
      · exact h4 a ha
    · cases h
  · cases h

theorem slW_spec (hS : S.WF) {e sz k n q : Nat} {u : TV FM} {c : Ce FM} {φ : List Prop} (h : slW S e sz u = some (k, n, q, c, φ)) (hφ : All φ) :
    ∃ A, u.den S.E = .slice A n q ∧ k < S.md.length ∧ cwf c ∧ ∀ w, Hp M w0 w S.md → Hp M w0 w (S.md.set k (.sl A n q (cden S.E c) e sz)) := by
  unfold slW at h
  split at h
  · rename_i id o n' q' t
    simp only [cond_eq_ite] at h
    split at h
    · rename_i ho
      have ho := beq_n ho
      split at h
      · rename_i k' j n0 q0 c0 e' s' hp
        split at h
        · rename_i hc
          simp only [Bool.and_eq_true] at hc
          have h1 := beq_n hc.1; have h2 := beq_n hc.2
          obtain ⟨p1, p2, p3⟩ := pcAt_spec (E := S.E) hp
          simp only [Pc.id?, Option.some.injEq] at p3
          subst h1 h2 p3 ho
          have hw : cwf c0 := mwf_at hS.m p1
          have hlt : k' < S.md.length := (List.getElem?_eq_some_iff.1 p2).1
          cases t with
          | true =>
            simp only [if_true] at h
            obtain ⟨⟨r, m⟩, hr, h⟩ := Option.map_eq_some_iff.1 h
            simp only [Prod.mk.injEq] at h
            obtain ⟨rfl, rfl, rfl, rfl, rfl⟩ := h
            obtain ⟨a1, a2, rfl, -⟩ := hφ
            obtain ⟨g1, g2, g3⟩ := vcut_spec (E := S.E) (N := S.E.length) hr hw a2
            rw [Nat.zero_mul, List.drop_zero] at g1
            refine ⟨_, rfl, hlt, g2, fun w H => ?_⟩
            rw [← g1]
            exact H.short k' n' p2 a1
          | false =>
            simp only [Bool.false_eq_true, if_false, Option.some.injEq, Prod.mk.injEq] at h
            obtain ⟨rfl, rfl, rfl, rfl, rfl⟩ := h
            obtain ⟨rfl, rfl, -⟩ := hφ
            refine ⟨_, rfl, hlt, hw, fun w H => ?_⟩
            have e : S.md.set k' (.sl (bas S.E j 0) n' q' (cden S.E c0) e sz) = S.md := by
              apply List.ext_getElem?
              intro i
              rw [List.getElem?_set]
              split
              · rename_i hi; subst hi
                exact p2.symm
              · rfl
            rw [e]; exact H
        · cases h
      · cases h
    · cases h
  · cases h

theorem new_bas {E : List Ad} {A : Option Addr} : bas (E ++ [.ad A]) E.length 0 = A := by unfold bas; simp
theorem new_lt {n : Nat} : Nat.blt n (n + 1) = true := Nat.blt_eq.mpr (by omega)

/-- A state with one piece in another's stead, at a new address. -/
theorem rep_wf (hS : S.WF) {d : Option Nat} {v : TV FM} {A : Option Addr} {k : Nat} {p : Pc FM} (h1 : v.wf) (h2 : v.lt (S.E.length + 1) = true) (h3 : p.wf) (h4 : p.lt (S.E.length + 1) = true) (h5 : p.bkok (S.E ++ [.ad A]) = true) :
    (⟨setT S.T d (some v), S.E ++ [.ad A], S.m.set k p, S.V, S.R⟩ : SS FM).WF := by
  have hl : (S.E ++ [Ad.ad A]).length = S.E.length + 1 := by simp
  refine ⟨mbk_set (mbk_ext hS.b) h5, ?_, stwf_set hS.t h1, ?_, mwf_set hS.m h3, ?_, vwf_ext hS.v⟩
  · show rwf (S.E ++ [Ad.ad A]).length S.R
    rw [hl]; exact rwf_mono (by omega) hS.r
  · show stlt (S.E ++ [Ad.ad A]).length (setT S.T d (some v)) = true
    rw [hl]; exact stlt_set (stlt_mono (by omega) hS.tl) h2
  · show mlt (S.E ++ [Ad.ad A]).length (S.m.set k p) = true
    rw [hl]; exact mlt_set (mlt_mono (by omega) hS.ml) h4
theorem rep_ext {d : Option Nat} {v : TV FM} {E : List Ad} {m : List (Pc FM)} : Ext S (⟨setT S.T d (some v), S.E ++ E, m, S.V, S.R⟩ : SS FM) := ⟨setT_ext _ _ _, ⟨E, rfl⟩, rfl⟩

theorem tyT_e {P : Program} {e e' s b : Nat} (h : tyT P e = some (s, b, e')) : e' = e := (tyT_snd h).symm

theorem appX_ok (hS : S.WF) (H : HS M w0 w S) {i : Nat} {rest : OT} {o : Oper} {t : TypeId} {x y : Operand} {φ : List Prop} {hy : Nat → List Prop} {g : Option Addr → Nat → SS FM} (ho : ops[i]? = some o) (hd : dstOk N o.dst = true) (hg : gst S.T ops o = some .want) (hf : fl i = 3)
    (hop : o.op = .call { callee := .builtin .append, args := ⟨[x, y]⟩, argTypes := ⟨[t, t]⟩ }) (h : appX X S o.dst t x y = some (φ, hy, g)) (hφ : All φ)
    (hw : ∀ A q w', All (hy q) → (g A q).WF → Ext S (g A q) → Hp M w0 w' (g A q).md → WC X.P N ops Q fl rest (g A q).Td w') : WC X.P N ops Q fl (.s i rest) S.Td w := by
  unfold appX at h
  split at h
  · rename_i e hu
    split at h
    · rename_i sz by' e' u v hty hx hyy
      have := tyT_e hty; subst this
      obtain ⟨e1, -, -⟩ := evS_spec hS hx
      obtain ⟨e2, -, -⟩ := evS_spec hS hyy
      split at h
      · rename_i cy ny φy hr
        simp only [cond_eq_ite] at h
        split at h
        · rename_i hn
          simp only [Option.some.injEq, Prod.mk.injEq] at h
          obtain ⟨rfl, rfl, rfl⟩ := h
          obtain ⟨h1, h2, -⟩ := All_append.1 hφ
          obtain ⟨⟨B, q, r1, r2⟩, r3, r4, r5⟩ := slR_spec hS H hr h1
          have hop' : ((opT N ops S.Td i).bind (apT X.P S.Td .append), fl i) = (some (o.dst, t, some (sz, by', e'), .slice none 0 0, .slice B ny q), 3) := by
            rw [show opT N ops S.Td i = some o from opT_of (T := S.T) ho hd hg]
            simp only [Option.bind_some, apT, hop, Nat.beq_refl, e1, e2, isNil_den hn, r1, hu, hty, hf]
            rfl
          refine wc_app (H.hp.nils e' sz) 0 o.dst sz by' hop' rfl r2 r4 (cflat (r5 S.E.length)) (by rw [Nat.zero_add]; exact h2) fun A' c' w' H' => ?_
          simp only [Nat.zero_add, List.nil_append, List.set_cons_zero] at H'
          have hcap := H'.slLen 0 rfl
          have hm : (⟨setT S.T o.dst (some (.v (.one (.sc S.E.length 0 ny c' false)))), S.E ++ [.ad A'], [.sl S.E.length ny c' cy e' sz] ++ S.m, S.V, S.R⟩ : SS FM).md = .sl A' ny c' (cden S.E cy) e' sz :: S.md := by
            show mden (S.E ++ [.ad A']) (.sl S.E.length ny c' cy e' sz :: S.m) = _
            simp only [mden, Pc.den, new_bas, cext (r5 S.E.length), mden_ext hS.ml]; rfl
          have := hw A' c' w' ⟨hcap.2.1, trivial⟩ (add_wf hS trivial new_lt ⟨r3, trivial⟩ (by simp only [mlt, Pc.lt, List.length_singleton, new_lt, r5, Bool.and_self]) rfl) add_ext (by rw [hm]; exact H')
          have this : WC _ _ _ _ _ _ (tden _ (setT S.T o.dst (some _))) _ := this
          rw [tden_setT, tden_ext hS.tl] at this
          simp only [TV.den, SV.den, S0.den, new_bas] at this
          simp only [Nat.zero_add]
          exact this
        · split at h
          · rename_i k n q0 c φ1 hW
            obtain ⟨r, hr2, h⟩ := Option.map_eq_some_iff.1 h
            simp only [Prod.mk.injEq] at h
            obtain ⟨rfl, rfl, rfl⟩ := h
            obtain ⟨h1, h2⟩ := All_append.1 hφ
            obtain ⟨h2, h3, -⟩ := All_append.1 h2
            obtain ⟨⟨B, q, r1, r2⟩, r3, r4, r5⟩ := slR_spec hS H hr h2
            obtain ⟨A, w1, w2, w3, w4⟩ := slW_spec (M := M) (w0 := w0) hS hW h1
            obtain ⟨c1, c2, c3⟩ := capp_spec (E := S.E) (N := S.E.length) hr2 w3 r3
            have hop' : ((opT N ops S.Td i).bind (apT X.P S.Td .append), fl i) = (some (o.dst, t, some (sz, by', e'), .slice A n q0, .slice B ny q), 3) := by
              rw [show opT N ops S.Td i = some o from opT_of (T := S.T) ho hd hg]
              simp only [Option.bind_some, apT, hop, Nat.beq_refl, e1, e2, w1, r1, hu, hty, hf]
              rfl
            have H1 := w4 w H.hp
            have hk : (S.md.set k (.sl A n q0 (cden S.E c) e' sz))[k]? = some (.sl A n q0 (cden S.E c) e' sz) := by
              rw [List.getElem?_set]; simp [w2]
            refine wc_app H1 k o.dst sz by' hop' hk r2 r4 (cflat (r5 S.E.length)) h3 fun A' c' w' H' => ?_
            rw [List.set_set, ← c1] at H'
            have hk2 : (S.md.set k (.sl A' (n + ny) c' (cden S.E r) e' sz))[k]? = some (.sl A' (n + ny) c' (cden S.E r) e' sz) := by
              rw [List.getElem?_set]; simp [w2]
            have hcap := H'.slLen k hk2
            have c3' : cok (S.E.length + 1) r = true := cok_mono (by omega) c3
            have hm : (⟨setT S.T o.dst (some (.v (.one (.sc S.E.length 0 (n + ny) c' false)))), S.E ++ [.ad A'], S.m.set k (.sl S.E.length (n + ny) c' r e' sz), S.V, S.R⟩ : SS FM).md = S.md.set k (.sl A' (n + ny) c' (cden S.E r) e' sz) := by
              show mden (S.E ++ [.ad A']) (S.m.set k (.sl S.E.length (n + ny) c' r e' sz)) = _
              rw [mden_set, mden_ext hS.ml]
              simp only [Pc.den, new_bas, cext c3]; rfl
            have := hw A' c' w' ⟨hcap.2.1, trivial⟩ (rep_wf hS trivial new_lt c2 (by simp only [Pc.lt, new_lt, c3', Bool.and_self]) rfl) rep_ext (by rw [hm]; exact H')
            have this : WC _ _ _ _ _ _ (tden _ (setT S.T o.dst (some _))) _ := this
            rw [tden_setT, tden_ext hS.tl] at this
            simp only [TV.den, SV.den, S0.den, new_bas] at this
            exact this
          · cases h
      · cases h
    · cases h
  · cases h

theorem zeros_spec {E : List Ad} {N : Nat} {e n : Nat} {zs : List Value} {c : Ce FM} (h : zeros X e n zs = some c) : cden E c = zrep zs n ∧ cwf c ∧ cok N c = true := by
  unfold zeros at h
  split at h
  · rename_i j hj
    split at h
    · rename_i hs
      simp only [Option.some.injEq] at h; subst h
      have hz := strip_spec hs
      rw [List.append_nil] at hz
      refine ⟨?_, ⟨⟨by simp, fun a ha => by rw [List.eq_of_mem_replicate ha]; exact (FM j).hd⟩, trivial⟩, rfl⟩
      simp only [cden, Sg.den, List.append_nil]
      subst hz
      induction n with
      | zero => rfl
      | succ n ih => simp only [List.replicate_succ, fden, zrep, ih]
    · cases h
  · split at h
    · rename_i k z
      simp only [cond_eq_ite] at h
      split at h
      · rename_i hz
        have := of_decide_eq_true hz; subst this
        simp only [Option.some.injEq] at h; subst h
        refine ⟨by rw [zrep_iv]; simp [cden, Sg.den, Sg0.den], ⟨by simp [Sg.wf, Sg0.wf], trivial⟩, rfl⟩
      · cases h
    · cases h

theorem azX_ok (hS : S.WF) (H : HS M w0 w S) {i : Nat} {rest : OT} {o : Oper} {t t' : TypeId} {x y : Operand} {φ : List Prop} {hy : Nat → List Prop} {g : Option Addr → Nat → SS FM} (ho : ops[i]? = some o) (hd : dstOk N o.dst = true) (hg : gst S.T ops o = some .want) (hf : fl i = 3)
    (hop : o.op = .call { callee := .builtin .append, args := ⟨[x, y]⟩, argTypes := ⟨[t, t']⟩ }) (h : azX X S o.dst t t' x y = some (φ, hy, g)) (hφ : All φ)
    (hw : ∀ A q w', All (hy q) → (g A q).WF → Ext S (g A q) → Hp M w0 w' (g A q).md → WC X.P N ops Q fl rest (g A q).Td w') : WC X.P N ops Q fl (.s i rest) S.Td w := by
  unfold azX at h
  split at h
  · rename_i e k hu hu'
    split at h
    · rename_i sz by' e' u k' n hty hx hyy
      have := tyT_e hty; subst this
      obtain ⟨e1, -, -⟩ := evS_spec hS hx
      obtain ⟨e2, -, -⟩ := evS_spec hS hyy
      simp only [cond_eq_ite] at h
      split at h
      · rename_i hn
        obtain ⟨c, hc, h⟩ := Option.map_eq_some_iff.1 h
        simp only [Prod.mk.injEq] at h
        obtain ⟨rfl, rfl, rfl⟩ := h
        obtain ⟨h1, h2, -⟩ := hφ
        obtain ⟨c1, c2, c3⟩ := zeros_spec (E := S.E) (N := S.E.length) hc
        have hnn : n = ((n.toNat : Nat) : Int) := by omega
        have hop' : ((opT N ops S.Td i).bind (azT X.P S.Td), fl i, zOf X.P e') = (some (o.dst, some (sz, by', e'), ((n.toNat : Nat) : Int)), 3, zOf X.P e') := by
          rw [show opT N ops S.Td i = some o from opT_of (T := S.T) ho hd hg, ← hnn]
          rw [isNil_den hn] at e1
          simp only [TV.den, SV.den, S0.den] at e2
          simp only [Option.bind_some, azT, hop, e1, e2, hu, hu', hty, hf]
        refine wc_az H.hp o.dst n.toNat e' sz by' (zOf X.P e') hop' (by omega) h2 fun A' c' w' H' => ?_
        have hcap := H'.slLen 0 rfl
        rw [← c1] at H'
        have c3' : cok (S.E.length + 1) c = true := cok_mono (by omega) c3
        have hm : (⟨setT S.T o.dst (some (.v (.one (.sc S.E.length 0 n.toNat c' false)))), S.E ++ [.ad A'], [.sl S.E.length n.toNat c' c e' sz] ++ S.m, S.V, S.R⟩ : SS FM).md = .sl A' n.toNat c' (cden S.E c) e' sz :: S.md := by
          show mden (S.E ++ [.ad A']) (.sl S.E.length n.toNat c' c e' sz :: S.m) = _
          simp only [mden, Pc.den, new_bas, cext c3, mden_ext hS.ml]; rfl
        have := hw A' c' w' ⟨hcap.2.1, trivial⟩ (add_wf hS trivial new_lt ⟨c2, trivial⟩ (by simp only [mlt, Pc.lt, List.length_singleton, new_lt, c3', Bool.and_self]) rfl) add_ext (by rw [hm]; exact H')
        have this : WC _ _ _ _ _ _ (tden _ (setT S.T o.dst (some _))) _ := this
        rw [tden_setT, tden_ext hS.tl] at this
        simp only [TV.den, SV.den, S0.den, new_bas] at this
        exact this
      · cases h
    · cases h
  · cases h

theorem mkX_ok (hS : S.WF) (H : HS M w0 w S) {i : Nat} {rest : OT} {o : Oper} {t : TypeId} {x y : Operand} {φ : List Prop} {g : Option Addr → SS FM} (ho : ops[i]? = some o) (hd : dstOk N o.dst = true) (hg : gst S.T ops o = some .want) (hf : Nat.ble 2 (fl i) = true)
    (hop : o.op = .makeSlice t x y) (h : mkX X S o.dst t x y = some (φ, g)) (hφ : All φ)
    (hw : ∀ A w', (g A).WF → Ext S (g A) → Hp M w0 w' (g A).md → WC X.P N ops Q fl rest (g A).Td w') : WC X.P N ops Q fl (.s i rest) S.Td w := by
  unfold mkX at h
  split at h
  · rename_i e hu
    split at h
    · rename_i sz by' e' k n k' q hty hx hyy
      have := tyT_e hty; subst this
      obtain ⟨e1, -, -⟩ := evS_spec hS hx
      obtain ⟨e2, -, -⟩ := evS_spec hS hyy
      obtain ⟨c, hc, h⟩ := Option.map_eq_some_iff.1 h
      simp only [Prod.mk.injEq] at h
      obtain ⟨rfl, rfl⟩ := h
      obtain ⟨h1, h2, h3, -⟩ := hφ
      subst h2
      obtain ⟨c1, c2, c3⟩ := zeros_spec (E := S.E) (N := S.E.length) hc
      have hnn : n = ((n.toNat : Nat) : Int) := by omega
      have hop' : ((opT N ops S.Td i).bind (mkT X.P S.Td), Nat.ble 2 (fl i), zOf X.P e') = (some (o.dst, some (sz, by', e'), ((n.toNat : Nat) : Int), ((n.toNat : Nat) : Int)), true, zOf X.P e') := by
        rw [show opT N ops S.Td i = some o from opT_of (T := S.T) ho hd hg, ← hnn]
        simp only [TV.den, SV.den, S0.den] at e1 e2
        simp only [Option.bind_some, mkT, hop, e1, e2, hu, hty, hf]
      refine wc_mk H.hp o.dst n.toNat e' sz by' (zOf X.P e') hop' h3 fun A' w' H' => ?_
      rw [← c1] at H'
      have c3' : cok (S.E.length + 1) c = true := cok_mono (by omega) c3
      have hm : (⟨setT S.T o.dst (some (.v (.one (.sc S.E.length 0 n.toNat n.toNat false)))), S.E ++ [.ad A'], [.sl S.E.length n.toNat n.toNat c e' sz] ++ S.m, S.V, S.R⟩ : SS FM).md = .sl A' n.toNat n.toNat (cden S.E c) e' sz :: S.md := by
        show mden (S.E ++ [.ad A']) (.sl S.E.length n.toNat n.toNat c e' sz :: S.m) = _
        simp only [mden, Pc.den, new_bas, cext c3, mden_ext hS.ml]; rfl
      have := hw A' w' (add_wf hS trivial new_lt ⟨c2, trivial⟩ (by simp only [mlt, Pc.lt, List.length_singleton, new_lt, c3', Bool.and_self]) rfl) add_ext (by rw [hm]; exact H')
      have this : WC _ _ _ _ _ _ (tden _ (setT S.T o.dst (some _))) _ := this
      rw [tden_setT, tden_ext hS.tl] at this
      simp only [TV.den, SV.den, S0.den, new_bas] at this
      exact this
    · cases h
  · cases h

theorem run_cpS {P : Program} {m : Mem} (H : Hp M w0 w m) (k : Nat) {n c mm cc e t ty s by' n0 q0 : Nat} {A B : Option Addr} {xs ys : List Value} (hm : m[k]? = some (.sl A n0 q0 xs e s)) (ht : P.underlying t = some (.slice e)) (hy : tyT P e = some (s, by', e))
    (hR : Rd w B ys) (hl : ys.length = mm * s) (hfl : ∀ u ∈ ys, u.oneCell' = true) (hn : n ≤ n0) :
    ∃ w', (Builtin.copy_ #[t, t] ty #[.slice A n c, .slice B mm cc]).run P w = .ok (.int .i64 (min mm n : Nat)) w' ∧ Hp M w0 w' (m.set k (.sl A n0 q0 (blit xs 0 (ys.take (min mm n * s))) e s)) := by
  obtain ⟨x, z, h1, h2, rfl, rfl, h5, h6, h7⟩ := tyT_spec hy
  have hle : min mm n * x.size ≤ ys.length := by rw [hl]; exact Nat.mul_le_mul_right _ (Nat.min_le_left _ _)
  have htl : (ys.take (min mm n * x.size)).length = min mm n * x.size := by rw [List.length_take]; omega
  have hf : (Builtin.firstCells x.size (min mm n) (.slice B mm cc)).run P w = .ok (ys.take (min mm n * x.size)).toArray w := by
    cases B with
    | none =>
      have := hR.none_nil
      subst this
      simp [Builtin.firstCells]
    | some a =>
      exact run_firstCells_some (P := P) w x.size (min mm n) a mm cc _ htl fun j u hj => hR.cell j u (by
        rw [List.getElem?_take] at hj
        split at hj
        · exact hj
        · cases hj)
  have hxl := (H.slLen k hm).1
  have hroom : min mm n * x.size ≤ xs.length := by rw [hxl]; exact Nat.mul_le_mul_right _ (by omega)
  cases A with
  | none =>
    have hz : n0 = 0 := by
      rcases Nat.eq_zero_or_pos n0 with h | h
      · exact h
      · obtain ⟨b, hb⟩ := H.slAt k hm h; cases hb
    have hm0 : min mm n = 0 := by omega
    refine ⟨w, ?_, ?_⟩
    · simp only [Builtin.copy_]
      simp [run_underlying ht, Builtin.lenOf, sizeOf, typeInfo, h1, goInt, show Nat.min mm n = min mm n from rfl, hf]
    · rw [hm0, Nat.zero_mul, List.take_zero]
      rw [show blit xs 0 [] = xs by simp [blit]]
      have e2 : m.set k (.sl none n0 q0 xs e x.size) = m := by
        apply List.ext_getElem?
        intro i
        rw [List.getElem?_set]
        split
        · rename_i hi; subst hi
          have := (List.getElem?_eq_some_iff.1 hm).1
          rw [if_pos this]; exact hm.symm
        · rfl
      rw [e2]; exact H
  | some a =>
    obtain ⟨G, g1, g2, g3⟩ := H.upd hm
    rcases g1.1.2 with ⟨h, h'⟩ | ⟨g, cap, cur, h3, h4, h5', h6', h7', h8, h9⟩
    · simp only [Value.slice.injEq] at h; cases h.1
    simp only [Value.slice.injEq, Option.some.injEq] at h3
    obtain ⟨rfl, -, rfl⟩ := h3
    have hcl : cur.toList.length = q0 * x.size := by simpa using h8
    have hxc : xs.length ≤ cur.toList.length := by rw [hxl, hcl]; exact Nat.mul_le_mul_right _ h6'
    have hst := run_storeCells_at P g 0 e (ys.take (min mm n * x.size)) 0 cur w h5' (by rw [htl]; simp at hxc ⊢; omega) (fun u hu => hfl u (List.mem_of_mem_take hu))
    simp only [Nat.add_zero, List.take_zero, List.nil_append, Nat.zero_add] at hst
    refine ⟨w.setRow g (ys.take (min mm n * x.size) ++ cur.toList.drop (ys.take (min mm n * x.size)).length).toArray, ?_, g3 _ _ G rfl rfl rfl (by simp) (fun j _ hj => ?_) ⟨⟨?_, .inr ⟨g, q0, _, rfl, h4, setRow_heap w g cur _ e _ h5', h6', h7', ?_, ?_⟩⟩, g1.2⟩ fun j hj => .inl hj⟩
    · simp only [Builtin.copy_]
      simp [run_underlying ht, Builtin.lenOf, sizeOf, typeInfo, h1, hst, goInt, show Nat.min mm n = min mm n from rfl, hf]
    · have : j ≠ g := fun e => hj (e ▸ g1.2 _ rfl)
      simp [World.setRow, Array.getElem?_modify, Ne.symm this]
    · simp only [blit, List.length_append, List.length_take, List.length_drop, List.take_zero, List.length_nil]; omega
    · simp only [List.size_toArray, List.length_append, List.length_drop, Array.length_toList] at hcl hxc ⊢
      rw [htl]; omega
    · rw [← hxl]
      have hc : cur.toList = xs ++ cur.toList.drop (n0 * x.size) := by rw [← h9, List.take_append_drop]
      have := take_blit (xs := xs) (cur.toList.drop (n0 * x.size)) (ys.take (min mm n * x.size)) 0 (by omega)
      rw [← hc] at this
      simpa [blit] using this

theorem wc_copy {P : Program} {T : Tab} {i : Nat} {rest : OT} {o : Oper} {t : TypeId} {x y : Operand} {u v : Value} {r : Value} {w' : World} (ho : opT N ops T i = some o) (hf : fl i = 3)
    (hop : o.op = .call { callee := .builtin .copy, args := ⟨[x, y]⟩, argTypes := ⟨[t, t]⟩ }) (hx : evT T x = some u) (hy : evT T y = some v) (hrun : (Builtin.copy_ #[t, t] o.type #[u, v]).run P w = .ok r w')
    (h : WC P N ops Q fl rest (putT T o.dst r) w') : WC P N ops Q fl (.s i rest) T w := by
  refine wc_heap ho (by rw [hf]; rfl) fun a ha => ?_
  have hrun' : (execOp a.eval o).run P w = .ok (.value r) w' := by
    unfold execOp
    simp [hop, resolve, invoke, builtin, evT_spec ha hx, evT_spec ha hy, hrun]
  unfold operR
  rw [hrun']
  exact ⟨fun hh => by omega, h _ (ha.putT (opT_spec ha ho).2.1 _)⟩

theorem cpX_ok (hS : S.WF) (H : HS M w0 w S) {i : Nat} {rest : OT} {o : Oper} {t : TypeId} {x y : Operand} {φ : List Prop} {S' : SS FM} (ho : ops[i]? = some o) (hd : dstOk N o.dst = true) (hg : gst S.T ops o = some .want) (hf : fl i = 3)
    (hop : o.op = .call { callee := .builtin .copy, args := ⟨[x, y]⟩, argTypes := ⟨[t, t]⟩ }) (h : cpX X S o.dst t x y = some (φ, S')) (hφ : All φ)
    (hw : ∀ w', S'.WF → Ext S S' → Hp M w0 w' S'.md → WC X.P N ops Q fl rest S'.Td w') : WC X.P N ops Q fl (.s i rest) S.Td w := by
  unfold cpX at h
  split at h
  · rename_i e hu
    split at h
    · rename_i sz by' e' id o1 n q tr v hty hx hyy
      have := tyT_e hty; subst this
      obtain ⟨e1, -, -⟩ := evS_spec hS hx
      obtain ⟨e2, -, -⟩ := evS_spec hS hyy
      split at h
      · rename_i cy ny φy hr
        have fin : ∀ {k : Nat} {p : Pc FM} {w' : World} {φ0 : List Prop} {r : Nat}, k < S.md.length → p.wf → p.lt S.E.length = true → p.bkok S.E = true → (Builtin.copy_ #[t, t] o.type #[.slice (bas S.E id o1) n q, v.den S.E]).run X.P w = .ok (.int .i64 (r : Nat)) w' → Hp M w0 w' (S.md.set k (p.den S.E)) →
            S' = ⟨setT S.T o.dst (some (one (.int .i64 ((r : Nat) : Int)))), S.E, S.m.set k p, S.V, S.R⟩ → WC X.P N ops Q fl rest (putT S.Td o.dst (.int .i64 (r : Nat))) w' := by
          intro k p w' φ0 r hk p1 p2 p3 hrun H' e
          subst e
          have hW : (⟨setT S.T o.dst (some (one (.int .i64 ((r : Nat) : Int)))), S.E, S.m.set k p, S.V, S.R⟩ : SS FM).WF :=
            ⟨mbk_set hS.b p3, hS.r, stwf_set hS.t trivial, stlt_set hS.tl rfl, mwf_set hS.m p1, mlt_set hS.ml p2, hS.v⟩
          have := hw w' hW ⟨setT_ext _ _ _, ⟨[], by simp⟩, rfl⟩ (by show Hp M w0 w' (mden S.E (S.m.set k p)); rw [mden_set]; exact H')
          have this : WC _ _ _ _ _ _ (tden _ (setT S.T o.dst (some _))) _ := this
          rw [tden_setT] at this
          exact this
        split at h
        · rename_i k j c ty hp
          obtain ⟨p1, p2, p3⟩ := pcAt_spec (E := S.E) hp
          simp only [Pc.id?, Option.some.injEq] at p3; subst p3
          have hbk : isbk S.E j = true := mbk_at hS.b p1
          have hcw : cwf c := mwf_at hS.m p1
          have hl : (Nat.blt j S.E.length && cok S.E.length c) = true := mlt_at hS.ml p1
          simp only [Bool.and_eq_true] at hl
          obtain ⟨⟨c1, φ1⟩, hc1, h⟩ := Option.bind_eq_some_iff.1 h
          simp only [cond_eq_ite] at h hc1
          split at h
          · rename_i hk
            simp only [Bool.and_eq_true] at hk
            obtain ⟨c', hc', h⟩ := Option.map_eq_some_iff.1 h
            simp only [Prod.mk.injEq] at h
            obtain ⟨rfl, hS'⟩ := h
            obtain ⟨h1, h2⟩ := All_append.1 hφ
            obtain ⟨⟨B, qb, r1, r2⟩, r3, r4, r5⟩ := slR_spec hS H hr h1
            have hcn := beq_n hk.2
            have htk : cden S.E c1 = (cden S.E cy).take (min ny n * sz) ∧ cwf c1 := by
              split at hc1
              · rename_i hb
                have hb := beq_n hb
                simp only [Option.some.injEq, Prod.mk.injEq] at hc1
                obtain ⟨rfl, rfl⟩ := hc1
                refine ⟨?_, r3⟩
                rw [List.take_of_length_le]
                rw [r4]
                have : min ny n = ny := hb.symm
                rw [this]; exact Nat.le_refl _
              · obtain ⟨⟨r, m⟩, hr', hc1⟩ := Option.map_eq_some_iff.1 hc1
                simp only [Prod.mk.injEq] at hc1
                obtain ⟨rfl, rfl⟩ := hc1
                obtain ⟨g1, g2, g3⟩ := vcut_spec (E := S.E) (N := S.E.length) hr' r3 h2.1
                rw [Nat.zero_mul, List.drop_zero] at g1
                exact ⟨g1.symm, g2⟩
            obtain ⟨g1, g2, g3, g4, g5⟩ := cput_spec (E := S.E) hc' hcw hl.2 htk.2 hk.1
            have hcl := clen (E := S.E) hcw
            have hroom : o1 + min ny n * sz ≤ (cden S.E c).length := by
              rw [hcl]; have : Nat.min ny n = min ny n := rfl; rw [this] at hcn; omega
            obtain ⟨w', hrun, H'⟩ := run_cp (P := X.P) H.hp k (b := bno S.E j) (off := o1) (n := n) (c := q) (cc := qb) (ty := o.type) p2 hu hty r2 r4 (cflat (r5 S.E.length)) hroom
            have hrun2 : (Builtin.copy_ #[t, t] o.type #[.slice (bas S.E j o1) n q, v.den S.E]).run X.P w = .ok (.int .i64 (min ny n : Nat)) w' := by
              rw [bas_bk hbk, r1]; exact hrun
            refine wc_copy (u := .slice (bas S.E j o1) n q) (v := v.den S.E) (show opT N ops S.Td i = some o from opT_of (T := S.T) ho hd hg) hf hop e1 e2 hrun2 ?_
            have hlen : k < S.md.length := (List.getElem?_eq_some_iff.1 p2).1
            refine fin (φ0 := []) (p := .bk j c' ty) hlen g2 (by show (Nat.blt j S.E.length && cok S.E.length c') = true; rw [hl.1, g3]; rfl) hbk hrun2 ?_ hS'.symm
            simp only [Pc.den, g1, htk.1]
            exact H'
          · cases h
        · rename_i k j n0 q0 c e'' s'' hp
          simp only [cond_eq_ite] at h
          split at h
          · rename_i hk
            simp only [Bool.and_eq_true] at hk
            have k1 := beq_n hk.1.1; have k2 := beq_n hk.1.2; have k3 := beq_n hk.2
            obtain ⟨p1, p2, p3⟩ := pcAt_spec (E := S.E) hp
            simp only [Pc.id?, Option.some.injEq] at p3
            subst p3
            have hcw : cwf c := mwf_at hS.m p1
            have hl : (Nat.blt j S.E.length && cok S.E.length c) = true := mlt_at hS.ml p1
            simp only [Bool.and_eq_true] at hl
            split at h
            · rename_i c1 m1 c2 m2 hc1 hc2
              obtain ⟨c', hc', h⟩ := Option.map_eq_some_iff.1 h
              simp only [Prod.mk.injEq] at h
              obtain ⟨rfl, hS'⟩ := h
              obtain ⟨h1, h2, h3, h4, -⟩ := All_append.1 hφ
              obtain ⟨⟨B, qb, r1, r2⟩, r3, r4, r5⟩ := slR_spec hS H hr h1
              obtain ⟨g1, g2, g3⟩ := vcut_spec (E := S.E) (N := S.E.length) hc1 r3 h2
              rw [Nat.zero_mul, List.drop_zero] at g1
              obtain ⟨d1, d2, d3⟩ := vcut_spec (E := S.E) (N := S.E.length) hc2 hcw h3
              obtain ⟨a1, a2, a3⟩ := capp_spec (E := S.E) (N := S.E.length) hc' g2 d2
              subst k1 k2 k3
              obtain ⟨w', hrun, H'⟩ := run_cpS (P := X.P) H.hp k (n := n) (c := q) (cc := qb) (ty := o.type) p2 hu hty r2 r4 (cflat (r5 S.E.length)) h4
              have hrun2 : (Builtin.copy_ #[t, t] o.type #[.slice (bas S.E j 0) n q, v.den S.E]).run X.P w = .ok (.int .i64 (min ny n : Nat)) w' := by rw [r1]; exact hrun
              refine wc_copy (u := .slice (bas S.E j 0) n q) (v := v.den S.E) (show opT N ops S.Td i = some o from opT_of (T := S.T) ho hd hg) hf hop e1 e2 hrun2 ?_
              have hlen : k < S.md.length := (List.getElem?_eq_some_iff.1 p2).1
              refine fin (φ0 := []) (p := .sl j n0 q0 c' e' sz) hlen a2 (by show (Nat.blt j S.E.length && cok S.E.length c') = true; rw [hl.1, a3]; rfl) rfl hrun2 ?_ hS'.symm
              have hxl := (H.hp.slLen k p2).1
              have hbl : blit (cden S.E c) 0 ((cden S.E cy).take (min ny n * sz)) = cden S.E c' := by
                rw [a1, ← g1, ← d1]
                simp only [blit, List.take_zero, List.nil_append, Nat.zero_add]
                congr 1
                have e3 : ((cden S.E cy).take (min ny n * sz)).length = min ny n * sz := by
                  rw [List.length_take, r4]
                  exact Nat.min_eq_left (Nat.mul_le_mul_right _ (Nat.min_le_left _ _))
                rw [e3]
                symm
                apply List.take_of_length_le
                rw [List.length_drop, hxl, Nat.sub_mul]
                exact Nat.le_refl _
              simp only [Pc.den, ← hbl]
              exact H'
            · cases h
          · cases h
        · cases h
      · cases h
    · cases h
  · cases h

theorem bsX_ok (hS : S.WF) (H : HS M w0 w S) (hfd : fl.d = no) {i : Nat} {rest : OT} {o : Oper} {src dst : TypeId} {x : Operand} {φ : List Prop} {v : TV FM} (ho : ops[i]? = some o) (hd : dstOk N o.dst = true) (hg : gst S.T ops o = some .want) (hf : fl i = 1)
    (hop : o.op = .convert src dst x) (h : bsX X S src dst x = some (φ, v)) (hφ : All φ) : v.wf ∧ v.lt S.E.length = true ∧ (WC X.P N ops Q fl rest (putT S.Td o.dst (v.den S.E)) w → WC X.P N ops Q fl (.s i rest) S.Td w) := by
  unfold bsX at h
  split at h
  · rename_i e hs hds
    split at h
    · rename_i he
      split at h
      · rename_i hx
        obtain ⟨e1, -, -⟩ := evS_spec hS hx
        simp only [Option.some.injEq, Prod.mk.injEq] at h
        obtain ⟨rfl, rfl⟩ := h
        refine ⟨trivial, rfl, fun hh => wc_bs (A := none) (n := 0) (c := 0) o.dst [] ?_ (Rd.nil _ _) rfl hh hfd⟩
        rw [show opT N ops S.Td i = some o from opT_of (T := S.T) ho hd hg]
        simp only [TV.den, SV.den, S0.den] at e1
        simp only [Option.bind_some, bsT, hop, hs, hds, e1, he, hf]
      · rename_i u hx
        obtain ⟨e1, -, -⟩ := evS_spec hS hx
        split at h
        · rename_i l m ny φ' hr
          simp only [Option.some.injEq, Prod.mk.injEq] at h
          obtain ⟨rfl, rfl⟩ := h
          obtain ⟨⟨B, q, r1, r2⟩, r3, r4, r5⟩ := slR_spec hS H hr hφ
          have hR : Rd w B (iv .u8 l) := by simpa [cden, Sg.den, Sg0.den] using r2
          have hlen : l.length = ny := by simpa [cden, Sg.den, Sg0.den, iv_length] using r4
          refine ⟨trivial, rfl, fun hh => wc_bs (A := B) (n := ny) (c := q) o.dst l ?_ hR hlen hh hfd⟩
          rw [show opT N ops S.Td i = some o from opT_of (T := S.T) ho hd hg]
          rw [r1] at e1
          simp only [Option.bind_some, bsT, hop, hs, hds, e1, he, hf]
        · cases h
      · cases h
    · cases h
  · cases h
end
end Go.Px
