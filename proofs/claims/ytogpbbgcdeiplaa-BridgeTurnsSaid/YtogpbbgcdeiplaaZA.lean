/-
  Quiet operations under tests: that they do what was computed. No condition.
-/
import Derived.Test.YtogpbbgcdeiplaaZ9
set_option linter.all false
namespace Go.Px
open Go.RowKit

section
variable {FM : Nat → Fm}
variable {X : Cx} {N : FN} {ops : Array Oper} {fl : FL} {S : SS FM} {Q : Exit → Act → World → Prop} {w : World}

theorem wc_skipS {T : ST FM} {i : Nat} {rest : OT} {o : Oper} {E : List Ad} (ho : ops[i]? = some o) (hd : dstOk N o.dst = true) (hg : gst T ops o = some .skip)
    (h : WC X.P N ops Q fl rest (tden E (setT T o.dst (skV ops i))) w) : WC X.P N ops Q fl (.s i rest) (tden E T) w := by
  refine wc_skip o.dst ?_ (h.mono fun t v ht => ?_)
  · unfold skT
    rw [ho]
    simp only [hd, gst_skip hg, beq_self_eq_true, Bool.and_self, if_true]
  · cases hs : skV (FM := FM) ops i with
    | some x =>
      rw [hs, tden_setT, skV_den hs] at ht
      exact ht
    | none =>
    rw [hs] at ht
    cases hdst : o.dst with
    | none => rw [hdst] at ht; exact ht
    | some d =>
      rw [hdst] at ht
      simp only [setT, tden, look_filter] at ht
      simp only [putT, look]
      split at ht
      · cases ht
      · rename_i hne
        rw [if_neg (by simpa using hne)]
        exact ht

theorem memN_cons {t d : Nat} {l : List Nat} (h : memN t (d :: l) = false) : t ≠ d ∧ memN t l = false := by
  simp only [memN, Bool.or_eq_false_iff] at h
  refine ⟨fun e => ?_, h.2⟩
  subst e
  have : Nat.beq t t = true := Nat.beq_refl t
  rw [this] at h; cases h.1
theorem lookS_set {T : ST FM} {d : Option Nat} {v : Option (TV FM)} {t : Nat} (h : ∀ x, d = some x → t ≠ x) : lookS (setT T d v) t = lookS T t := by
  cases d with
  | none => rfl
  | some d =>
    have hne : Nat.beq d t = false := by
      cases e : Nat.beq d t with
      | false => rfl
      | true => exact absurd (beq_n e).symm (h d rfl)
    simp only [setT, lookS, hne, cond_false]
theorem dstsO_s {i : Nat} {o : Oper} {n : Nat} {t : OT} (ho : ops[i]? = some o) : dstsO ops (n + 1) (.s i t) = (match o.dst with | some d => d :: dstsO ops n t | none => dstsO ops n t) := by
  simp only [dstsO, ho, Option.bind_some]
  cases o.dst <;> rfl
theorem dsts_out {i : Nat} {o : Oper} {n : Nat} {t : OT} {s : Nat} (ho : ops[i]? = some o) (h : memN s (dstsO ops (n + 1) (.s i t)) = false) : (∀ x, o.dst = some x → s ≠ x) ∧ memN s (dstsO ops n t) = false := by
  rw [dstsO_s ho] at h
  cases hd : o.dst with
  | none => rw [hd] at h; exact ⟨fun x hx => (by cases hx), h⟩
  | some d =>
    rw [hd] at h
    obtain ⟨h1, h2⟩ := memN_cons h
    exact ⟨fun x hx => (by cases hx; exact h1), h2⟩
theorem dropO_add : ∀ (k n : Nat) (L : OT), (∀ m, m < k → ∃ i t, dropO m L = .s i t) → dropO n (dropO k L) = dropO (k + n) L
  | 0, n, L, _ => by simp [dropO]
  | k + 1, n, .s i t, h => by
    rw [show k + 1 + n = (k + n) + 1 by omega]
    simp only [dropO]
    exact dropO_add k n t fun m hm => by
      obtain ⟨i', t', h'⟩ := h (m + 1) (by omega)
      exact ⟨i', t', by simpa [dropO] using h'⟩
  | k + 1, n, .nil, h => by
    obtain ⟨i, t, h'⟩ := h 0 (by omega)
    simp [dropO] at h'
  | k + 1, n, .br a b, h => by
    obtain ⟨i, t, h'⟩ := h 0 (by omega)
    simp [dropO] at h'

theorem dstsO_drop : ∀ (k n : Nat) (L : OT) (s : Nat), (∀ m, m < k → ∃ i t, dropO m L = .s i t) → memN s (dstsO ops (k + n) L) = false → memN s (dstsO ops k L) = false ∧ memN s (dstsO ops n (dropO k L)) = false
  | 0, n, L, s, _, h => by
    rw [Nat.zero_add] at h
    exact ⟨by cases L <;> rfl, by simpa [dropO] using h⟩
  | k + 1, n, .s i t, s, hm, h => by
    rw [show k + 1 + n = (k + n) + 1 by omega] at h
    have hm' : ∀ m, m < k → ∃ i t', dropO m t = .s i t' := fun m h => by
      obtain ⟨i', t', h'⟩ := hm (m + 1) (by omega)
      exact ⟨i', t', by simpa [dropO] using h'⟩
    simp only [dstsO] at h ⊢
    simp only [dropO]
    cases hd : (ops[i]?).bind (·.dst) with
    | none =>
      rw [hd] at h
      exact dstsO_drop k n t s hm' h
    | some d =>
      rw [hd] at h
      simp only [memN, Bool.or_eq_false_iff] at h ⊢
      obtain ⟨h1, h2⟩ := dstsO_drop k n t s hm' h.2
      exact ⟨⟨h.1, h1⟩, h2⟩
  | k + 1, n, .nil, s, hm, _ => by
    obtain ⟨i, t, h'⟩ := hm 0 (by omega)
    simp [dropO] at h'
  | k + 1, n, .br a b, s, hm, _ => by
    obtain ⟨i, t, h'⟩ := hm 0 (by omega)
    simp [dropO] at h'
/-- How many operations there are, one behind the other. -/
def runsO : Nat → OT → Bool
  | 0, _ => true
  | n + 1, .s _ t => runsO n t
  | _ + 1, _ => false
theorem runsO_drop : ∀ {k : Nat} {L : OT}, runsO k L = true → ∀ m, m < k → ∃ i t, dropO m L = .s i t
  | 0, _, _, m, hm => by omega
  | k + 1, .s i t, h, 0, _ => ⟨i, t, rfl⟩
  | k + 1, .s i t, h, m + 1, hm => by
    obtain ⟨i', t', h'⟩ := runsO_drop (k := k) (L := t) h m (by omega)
    exact ⟨i', t', by simpa [dropO] using h'⟩
  | k + 1, .nil, h, _, _ => by simp [runsO] at h
  | k + 1, .br _ _, h, _, _ => by simp [runsO] at h
theorem runsO_succ : ∀ {k : Nat} {L : OT} {i : Nat} {t : OT}, runsO k L = true → dropO k L = .s i t → runsO (k + 1) L = true
  | 0, .s i t, _, _, _, _ => rfl
  | 0, .nil, _, _, _, h => by simp [dropO] at h
  | 0, .br _ _, _, _, _, h => by simp [dropO] at h
  | k + 1, .s i t, _, _, h1, h2 => runsO_succ (k := k) (L := t) h1 (by simpa [dropO] using h2)
  | k + 1, .nil, _, _, h, _ => by simp [runsO] at h
  | k + 1, .br _ _, _, _, h, _ => by simp [runsO] at h
theorem runsO_add : ∀ {a b : Nat} {L : OT}, runsO a L = true → runsO b (dropO a L) = true → runsO (a + b) L = true
  | 0, b, L, _, h => by simpa [dropO] using h
  | a + 1, b, .s i t, h1, h2 => by
    rw [show a + 1 + b = (a + b) + 1 by omega]
    exact runsO_add (a := a) (L := t) h1 (by simpa [dropO] using h2)
  | a + 1, b, .nil, h, _ => by simp [runsO] at h
  | a + 1, b, .br _ _, h, _ => by simp [runsO] at h

theorem qrun_ok (hS : S.WF) {M : Nat → Prop} {w0 : World} (H : HS M w0 w S) (hfd : fl.d = no) : ∀ (f n : Nat) (L : OT) (T : ST FM) (φ : List Prop) (T' : ST FM),
    qrun X N ops fl S f n L T = some (φ, T') → All φ → stwf T → stlt S.E.length T = true →
    runsO n L = true ∧ stwf T' ∧ stlt S.E.length T' = true ∧ (∀ t, memN t (dstsO ops n L) = false → lookS T' t = lookS T t) ∧
      (WC X.P N ops Q fl (dropO n L) (tden S.E T') w → WC X.P N ops Q fl L (tden S.E T) w)
  | 0, n, L, T, φ, T', h, _, _, _ => by cases n <;> cases L <;> simp [qrun] at h
  | f + 1, 0, L, T, φ, T', h, hφ, h1, h2 => by
    simp only [qrun, Option.some.injEq, Prod.mk.injEq] at h
    obtain ⟨rfl, rfl⟩ := h
    exact ⟨rfl, h1, h2, fun _ _ => rfl, fun h => by simpa [dropO] using h⟩
  | f + 1, n + 1, .nil, T, φ, T', h, _, _, _ => by simp [qrun] at h
  | f + 1, n + 1, .br _ _, T, φ, T', h, _, _, _ => by simp [qrun] at h
  | f + 1, n + 1, .s i rest, T, φ, T', h, hφ, h1, h2 => by
    simp only [qrun] at h
    split at h
    · cases h
    rename_i o ho
    simp only [cond_eq_ite] at h
    split at h
    · cases h
    rename_i hd
    have hd : dstOk N o.dst = true := by simpa using hd
    -- one operation, and those behind it
    have next : ∀ {v : Option (TV FM)} {φ' : List Prop}, qrun X N ops fl S f n rest (setT T o.dst v) = some (φ', T') → All φ' → otwf v → otlt S.E.length v = true →
        (WC X.P N ops Q fl rest (tden S.E (setT T o.dst v)) w → WC X.P N ops Q fl (.s i rest) (tden S.E T) w) →
        runsO (n + 1) (.s i rest) = true ∧ stwf T' ∧ stlt S.E.length T' = true ∧ (∀ t, memN t (dstsO ops (n + 1) (.s i rest)) = false → lookS T' t = lookS T t) ∧
          (WC X.P N ops Q fl (dropO (n + 1) (.s i rest)) (tden S.E T') w → WC X.P N ops Q fl (.s i rest) (tden S.E T) w) := by
      intro v φ' hq hφ' hv1 hv2 hstep
      obtain ⟨g0, g1, g2, g4, g5⟩ := qrun_ok hS H hfd f n rest _ φ' T' hq hφ' (stwf_set h1 hv1) (stlt_set h2 hv2)
      refine ⟨g0, g1, g2, fun t ht => ?_, fun hh => hstep (g5 (by simpa [dropO] using hh))⟩
      obtain ⟨q1, q2⟩ := dsts_out ho ht
      rw [g4 t q2, lookS_set q1]
    split at h
    · cases h
    · rename_i hg
      exact next h hφ (skV_wf _ _) (skV_lt _ _ _) (wc_skipS ho hd hg)
    · rename_i hg
      split at h
      · rename_i c a b hop
        split at h
        · rename_i v hv
          split at h
          · rename_i hle
            obtain ⟨q1, q2, q3⟩ := pickQ_ok (Q := Q) (w := w) (rest := rest) hS h1 h2 ho hd hg hle hop hv
            exact next h hφ q1 q2 (fun hh => q3 (by rw [← tden_setT]; exact hh))
          · cases h
        · cases h
      · split at h
        · rename_i φ1 v hq
          split at h
          · rename_i hle
            obtain ⟨⟨ψ, T2⟩, hr, h⟩ := Option.map_eq_some_iff.1 h
            simp only [Prod.mk.injEq] at h
            obtain ⟨rfl, rfl⟩ := h
            obtain ⟨p1, p2⟩ := All_append.1 hφ
            have hS' := hS.withT h1 h2
            obtain ⟨q1, q2, -, q3⟩ := stepQ_wc (Q := Q) (rest := rest) (S := { S with T := T }) hS' ⟨H.hp, H.rd⟩ ho hd hg hle hfd hq p1
            simp only [List.map_nil, List.append_nil, List.length_nil, Nat.add_zero] at q2 q3
            exact next hr p2 q1 q2 (fun hh => q3 (by show WC X.P N ops Q fl rest (putT (tden S.E T) o.dst (v.den S.E)) w; rw [← tden_setT]; exact hh))
          · cases h
        · cases h
    · rename_i t g hg
      have hbt : look (tden S.E T) t = some (.bool g) := look_of (gst_ask (E := S.E) hg)
      split at h
      · rename_i k hk
        split at h
        · rename_i hkn
          have hkn := Nat.le_of_ble_eq_true hkn
          split at h
          · rename_i φ1 T1 φ2 T2 hq1 hq2
            split at h
            · rename_i T3 hm
              obtain ⟨⟨ψ, T4⟩, hr, h⟩ := Option.map_eq_some_iff.1 h
              simp only [Prod.mk.injEq] at h
              obtain ⟨rfl, rfl⟩ := h
              obtain ⟨p1, p2⟩ := All_append.1 hφ
              obtain ⟨p2, p3⟩ := All_append.1 p2
              -- the pick
              unfold mrgP at hm
              split at hm
              · rename_i ip rest' hdr
                split at hm
                · rename_i lo hlo
                  split at hm
                  · rename_i c a b d hlop hldst hlg1 hlg2
                    split at hm
                    · rename_i v1 v2 hv1 hv2
                      split at hm
                      · rename_i v hv
                        simp only [cond_eq_ite] at hm
                        split at hm
                        · rename_i hc
                          simp only [Bool.and_eq_true] at hc
                          obtain ⟨⟨⟨hct, hfl⟩, hdd⟩, hkk⟩ := hc
                          have := beq_n hct; subst this
                          simp only [Option.some.injEq] at hm; subst hm
                          have hk12 : lookS T1 c = some (.v (.one (.kb true))) ∧ lookS T2 c = some (.v (.one (.kb false))) := by
                            unfold kbCk at hkk
                            split at hkk
                            · rename_i e1 e2; exact ⟨e1, e2⟩
                            · cases hkk
                          -- either way, up to the pick and behind it
                          have way : ∀ (gb : Bool) (φg : List Prop) (Tg : ST FM) (vg : TV FM), g = gb → qrun X N ops fl S f k (.s i rest) (kbT T c gb) = some (φg, Tg) → All φg →
                              evS X { S with T := Tg } (some lo.type) (if gb then a else b) = some vg → gst Tg ops lo = some .want → lookS Tg c = some (.v (.one (.kb gb))) →
                              (runsO k (.s i rest) = true ∧ vg.wf) ∧ (v.den S.E = vg.den S.E → WC X.P N ops Q fl rest' (tden S.E ((d, some v) :: (unk (dstsO ops k (.s i rest)) ++ T))) w → WC X.P N ops Q fl (.s i rest) (tden S.E T) w) := by
                            intro gb φg Tg vg hgb hqg hφg hvg hlg hkg
                            obtain ⟨g0, g1, g2, g4, g5⟩ := qrun_ok hS H hfd f k (.s i rest) _ φg Tg hqg hφg (kbT_wf h1 c gb) (kbT_lt h2 c gb)
                            obtain ⟨e1, e2, e3⟩ := evS_spec (hS.withT g1 g2) hvg
                            refine ⟨⟨g0, e2⟩, fun hvv hw => (g5 ?_).mono (fun s u hs => ?_)⟩
                            rotate_left
                            · exact kbT_look hbt hgb s u hs
                            rw [hdr]
                            refine wc_pickK (X := X) (E := S.E) (g := gb) (v := v.den S.E) hlo (by rw [hldst]; exact hdd) hlg hfl hlop (look_of hkg) (by rw [hvv]; exact e1) (hw.mono fun s u hs => ?_)
                            rw [lookS_den] at hs
                            rw [hldst]
                            simp only [putT, look]
                            simp only [lookS, cond_eq_ite] at hs
                            by_cases es : d = s
                            · subst es
                              rw [if_pos (Nat.beq_refl d)] at hs
                              simp only [Option.map_some, Option.some.injEq] at hs
                              simp [hs]
                            · rw [if_neg (fun h => es (beq_n h))] at hs
                              rw [if_neg (by simpa using es), lookS_den]
                              cases hms : memN s (dstsO ops k (.s i rest)) with
                              | true =>
                                rw [lookS_append_in (by rw [keyIn_unk]; exact hms), lookS_unk] at hs
                                cases hs
                              | false =>
                                rw [lookS_append_out (by rw [keyIn_unk]; exact hms)] at hs
                                rw [g4 s hms]
                                simp only [kbT, lookS, cond_eq_ite]
                                by_cases ec : c = s
                                · subst ec
                                  rw [if_pos (Nat.beq_refl c)]
                                  rw [← lookS_den, hbt] at hs
                                  simp only [Option.some.injEq] at hs; subst hs
                                  subst hgb; rfl
                                · rw [if_neg (fun h => ec (beq_n h))]; exact hs
                          have w1 := fun hg => way true φ1 T1 v1 hg hq1 (imp1_spec p1 hg) hv1 hlg1 hk12.1
                          have w2 := fun hg => way false φ2 T2 v2 hg hq2 (imp1_spec p2 hg) hv2 hlg2 hk12.2
                          have hruns : runsO k (.s i rest) = true := by
                            cases hgg : g with
                            | true => exact (w1 hgg).1.1
                            | false => exact (w2 hgg).1.1
                          have hruns1 := runsO_succ hruns hdr
                          obtain ⟨r1, r2, r3⟩ := mrgV_spec (E := S.E) (N := S.E.length) hv (fun hg => (w1 hg).1.2) (fun hg => (w2 hg).1.2)
                          have hstep1 := runsO_drop hruns1
                          have hdr1 : dropO (k + 1) (.s i rest) = rest' := by
                            have := dropO_add k 1 (.s i rest) (runsO_drop hruns)
                            rw [← this, hdr]; simp [dropO]
                          obtain ⟨g0, g1, g2, g4, g5⟩ := qrun_ok hS H hfd f (n - k) (dropO (k + 1) (.s i rest)) _ ψ T4 hr p3 ⟨r2, stwf_append.2 ⟨stwf_unk, h1⟩⟩ (by simp only [stlt, otlt, r3, Bool.true_and]; exact stlt_append.2 ⟨stlt_unk, h2⟩)
                          have hnk : k + 1 + (n - k) = n + 1 := by omega
                          refine ⟨by rw [← hnk]; exact runsO_add hruns1 g0, g1, g2, fun s hs => ?_, fun hh => ?_⟩
                          · rw [← hnk] at hs
                            obtain ⟨s1, s2⟩ := dstsO_drop (k + 1) (n - k) (.s i rest) s hstep1 hs
                            obtain ⟨s3, s4⟩ := dstsO_drop k 1 (.s i rest) s (runsO_drop hruns) s1
                            rw [hdr] at s4
                            simp only [dstsO, hlo, Option.bind_some, hldst, memN, Bool.or_false] at s4
                            rw [g4 s s2]
                            simp only [lookS, s4, cond_false]
                            rw [lookS_append_out (by rw [keyIn_unk]; exact s3)]
                          · have h5 := g5 (by rw [dropO_add _ _ _ hstep1, hnk]; exact hh)
                            rw [hdr1] at h5
                            cases hgg : g with
                            | true => exact (w1 hgg).2 (by rw [r1, hgg]; rfl) h5
                            | false => exact (w2 hgg).2 (by rw [r1, hgg]; rfl) h5
                        · cases hm
                      · cases hm
                    · cases hm
                  · cases hm
                · cases hm
              · cases hm
            · cases h
          · cases h
        · cases h
      · cases h
end
end Go.Px
