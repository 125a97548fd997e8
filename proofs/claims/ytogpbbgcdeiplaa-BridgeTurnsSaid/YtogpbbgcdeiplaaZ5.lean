/-
  One operation that yields a value, by computing: what it yields and what must hold for it; that it does so. No condition.
-/
import Derived.Test.YtogpbbgcdeiplaaZ4
set_option linter.all false
namespace Go.Px
open Go.RowKit

section
variable {FM : Nat → Fm}

/-! ### Records put together -/
theorem foldl_set (off : Nat) : ∀ (vs : List Value) (k : Nat) (cs : Array Value), off + k + vs.length ≤ cs.size →
    ((vs.zipIdx k).foldl (fun cs (x : Value × Nat) => cs.setIfInBounds (off + x.2) x.1) cs).toList = blit cs.toList (off + k) vs
  | [], k, cs, _ => by simp [blit]
  | v :: vs, k, cs, h => by
    simp only [List.length_cons] at h
    have ih := foldl_set off vs (k + 1) (cs.setIfInBounds (off + k) v) (by simp; omega)
    simp only [List.zipIdx_cons, List.foldl_cons]
    rw [ih]
    simp only [Array.toList_setIfInBounds, blit]
    have hsz : cs.toList.length = cs.size := by simp
    generalize cs.toList = L at hsz ⊢
    rw [List.set_eq_take_append_cons_drop, if_pos (by omega)]
    have hl : (L.take (off + k)).length = off + k := by simp; omega
    have e1 : (L.take (off + k) ++ v :: L.drop (off + k + 1)).take (off + (k + 1)) = L.take (off + k) ++ [v] := by
      rw [List.take_append, show (L.take (off + k)).take (off + (k + 1)) = L.take (off + k) from List.take_of_length_le (by omega), hl, show off + (k + 1) - (off + k) = 1 by omega]
      rfl
    have e2 : (L.take (off + k) ++ v :: L.drop (off + k + 1)).drop (off + (k + 1) + vs.length) = L.drop (off + k + (v :: vs).length) := by
      rw [List.drop_append, show (L.take (off + k)).drop (off + (k + 1) + vs.length) = [] from List.drop_of_length_le (by omega), hl, show off + (k + 1) + vs.length - (off + k) = vs.length + 1 by omega, List.drop_succ_cons, List.drop_drop]
      simp only [List.nil_append, List.length_cons]
      congr 1; omega
    rw [e1, e2]
    simp

def bfill (N : Nat) (place : Nat → Option (Nat × Nat)) : Ce FM → List (Nat × SV FM) → Option (Ce FM)
  | c, [] => some c
  | c, (i, v) :: r => match place i with
    | some (off, size) => bif Nat.beq (cn v.ce) size && cok N v.ce then (cput c off v.ce).bind fun c => bfill N place c r else none
    | none => none
def sps (E : List Ad) : List (Nat × SV FM) → List (Nat × Value)
  | [] => []
  | (i, v) :: r => (i, v.den E) :: sps E r
def spwf : List (Nat × SV FM) → Prop
  | [] => True
  | (_, v) :: r => v.wf ∧ spwf r
theorem SV.ce_wf {v : SV FM} (h : v.wf) : cwf v.ce := by
  cases v with
  | one x => exact ⟨trivial, trivial⟩
  | ag c => exact h
theorem SV.ce_cells {E : List Ad} {N : Nat} {v : SV FM} (h : cok N v.ce = true) : (v.den E).cells = (cden E v.ce).toArray := by
  refine SV.ce_den v fun y e => ?_
  subst e
  simp only [SV.ce, cok, Sg.ok, Sg0.ok, Bool.and_eq_true] at h
  exact h.1.1
theorem bfill_spec {E : List Ad} {N : Nat} {place : Nat → Option (Nat × Nat)} : ∀ {l : List (Nat × SV FM)} {c r : Ce FM}, bfill N place c l = some r → cwf c → cok N c = true → spwf l →
    Instr.fill place (cden E c).toArray (sps E l) = some (cden E r).toArray ∧ cwf r ∧ cok N r = true ∧ cn r = cn c
  | [], c, r, h, hw, hk, _ => by
    simp only [bfill, Option.some.injEq] at h; subst h
    exact ⟨rfl, hw, hk, rfl⟩
  | (i, v) :: l, c, r, h, hw, hk, hl => by
    simp only [bfill] at h
    split at h
    · rename_i off size hp
      simp only [cond_eq_ite] at h
      split at h
      · rename_i hc
        simp only [Bool.and_eq_true] at hc
        have hsz := beq_n hc.1
        obtain ⟨c', hc', h⟩ := Option.bind_eq_some_iff.1 h
        have hvw := SV.ce_wf hl.1
        obtain ⟨g1, g2, g3, g4, g5⟩ := cput_spec (E := E) hc' hw hk hvw hc.2
        obtain ⟨q1, q2, q3, q4⟩ := bfill_spec (E := E) h g2 g3 hl.2
        refine ⟨?_, q2, q3, by rw [q4, g4]⟩
        have hcl := SV.ce_cells (E := E) hc.2
        have hlen := clen (E := E) hvw
        have hlen2 := clen (E := E) hw
        simp only [sps, Instr.fill, hp]
        rw [if_neg]
        · rw [← q1]
          congr 1
          rw [hcl]
          have := foldl_set off (cden E v.ce) 0 (cden E c).toArray (by simp; omega)
          simp only [Nat.add_zero] at this
          apply Array.toList_inj.1
          rw [← Array.foldl_toList]
          simp only [Array.toList_zipIdx]
          rw [this, g1]
        · rw [hcl]
          simp only [List.size_toArray]
          simp only [bne_iff_ne, ne_eq, Bool.or_eq_true, decide_eq_true_eq, not_or, Decidable.not_not]
          omega
      · cases h
    · cases h

def plS (P : Program) (d : TypeDesc) : Option (Nat → Option (Nat × Nat)) := match d with
  | .struct fs => (pureRun P (fs.mapM fun f => do pure (f.offset, ← sizeOf f.type))).map fun pl i => pl[i]?
  | .array _ e => (sizeB P e).map fun s i => some (i * s, s)
  | _ => none
def zvB (P : Program) (t : TypeId) : Option Value := pureRun P (zeroValue t)

theorem build_run {P : Program} {t : TypeId} {d : TypeDesc} {z : Value} {place : Nat → Option (Nat × Nat)} {parts : Array (Nat × Value)} {r : Array Value} (hu : P.underlying t = some d) (hz : zvB P t = some z) (hp : plS P d = some place)
    (hf : Instr.fill place z.cells parts.toList = some r) (w : World) : (Instr.build t parts).run P w = .ok (.agg r) w := by
  unfold Instr.build
  simp only [Sem.run_bind, pureRun_spec hz w, Result.andThen_ok, run_underlying' hu]
  cases d <;> simp only [plS, reduceCtorEq] at hp
  · rename_i n e
    obtain ⟨s, hs, rfl⟩ := Option.map_eq_some_iff.1 hp
    simp only [Sem.run_bind, pureRun_spec hs w, Result.andThen_ok]
    rw [hf]
    simp
  · rename_i fs
    obtain ⟨pl, hpl, rfl⟩ := Option.map_eq_some_iff.1 hp
    simp only [Sem.run_bind, pureRun_spec hpl w, Result.andThen_ok]
    rw [hf]
    simp

theorem part_run {P : Program} {ty off : Nat} {cs : List Value} {v : Value} (h : (aggB P ty = some false ∧ cs[off]? = some v) ∨ (∃ n, aggB P ty = some true ∧ sizeB P ty = some n ∧ off + n ≤ cs.length ∧ v = .agg ((cs.drop off).take n).toArray)) (w : World) :
    (part ty cs.toArray off).run P w = .ok v w := by
  unfold part
  rcases h with ⟨h1, h2⟩ | ⟨n, h1, h2, h3, rfl⟩
  · rw [Sem.run_bind, pureRun_spec h1 w]
    simp [h2]
  · rw [Sem.run_bind, pureRun_spec h1 w]
    simp only [Result.andThen_ok, if_true, Sem.run_bind, pureRun_spec h2 w, Sem.run_pure]
    simp

/-! ### Equality of cells -/
def s0kd : S0 → Option CK
  | .xv (.int k _) => some (.int k)
  | .xv (.bool _) => some .bool
  | .kb _ => some .bool
  | _ => none
def ckd : Ce FM → Option (List CK)
  | [] => some []
  | .b (.cl x) :: c => match s0kd x, ckd c with
    | some k, some l => some (k :: l)
    | _, _ => none
  | .b (.iz k _ n) :: c => (ckd c).map fun l => List.replicate n (.int k) ++ l
  | .f j _ n :: c => match (FM j).kds, ckd c with
    | some ks, some l => some ((List.replicate n ks).flatten ++ l)
    | _, _ => none
theorem fden_kd {F : Fm} {ks : List CK} (h : F.kds = some ks) : ∀ {l : List F.α}, (∀ a ∈ l, F.wf a) → (fden F l).map kd = ((List.replicate l.length ks).flatten).map some
  | [], _ => rfl
  | a :: l, hw => by
    simp only [fden, List.map_append, List.length_cons, List.replicate_succ, List.flatten_cons]
    rw [F.hkd ks h a (hw a (by simp)), fden_kd h fun b hb => hw b (by simp [hb])]
theorem fden_inj {F : Fm} (h : F.dec.isSome = true) : ∀ {l l' : List F.α}, (∀ a ∈ l, F.wf a) → (∀ a ∈ l', F.wf a) → l.length = l'.length → fden F l = fden F l' → l = l'
  | [], [], _, _, _, _ => rfl
  | [], _ :: _, _, _, hl, _ => by simp at hl
  | _ :: _, [], _, _, hl, _ => by simp at hl
  | a :: l, b :: l', hw, hw', hl, he => by
    have h1 := c0len (E := []) ((F.hwf a).1 (hw a (by simp)))
    have h2 := c0len (E := []) ((F.hwf b).1 (hw' b (by simp)))
    rw [F.hsz] at h1 h2
    simp only [fden] at he
    obtain ⟨e1, e2⟩ := List.append_inj he (by omega)
    rw [F.hdec h a b (hw a (by simp)) (hw' b (by simp)) e1, fden_inj h (fun c hc => hw c (by simp [hc])) (fun c hc => hw' c (by simp [hc])) (by simpa using hl) e2]
theorem ckd_spec {E : List Ad} : ∀ {c : Ce FM} {ks : List CK}, ckd c = some ks → cwf c → (cden E c).map kd = ks.map some
  | [], ks, h, _ => by simp [ckd] at h; subst h; rfl
  | .b (.cl x) :: c, ks, h, hw => by
    simp only [ckd] at h
    split at h
    · rename_i k l hk hl
      simp only [Option.some.injEq] at h; subst h
      have ih := ckd_spec (E := E) hl hw.2
      simp only [cden, Sg.den, Sg0.den, List.cons_append, List.nil_append, List.map_cons, ih]
      congr 1
      unfold s0kd at hk
      split at hk
      · simp only [Option.some.injEq] at hk; subst hk; rfl
      · simp only [Option.some.injEq] at hk; subst hk; rfl
      · simp only [Option.some.injEq] at hk; subst hk; rfl
      · cases hk
    · cases h
  | .b (.iz k l n) :: c, ks, h, hw => by
    obtain ⟨r, hr, rfl⟩ := Option.map_eq_some_iff.1 h
    have ih := ckd_spec (E := E) hr hw.2
    have hn : l.length = n := hw.1
    simp only [cden, Sg.den, Sg0.den, List.map_append, ih, kd_iv, hn]
    simp
  | .f j l n :: c, ks, h, hw => by
    simp only [ckd] at h
    split at h
    · rename_i ks' r hk hr
      simp only [Option.some.injEq] at h; subst h
      have ih := ckd_spec (E := E) hr hw.2
      obtain ⟨hl, ha⟩ := hw.1
      simp only [cden, Sg.den, List.map_append, ih]
      rw [fden_kd hk ha, hl]
    · cases h

def s0eq : S0 → S0 → Option Bool
  | .xv (.int k a), .xv (.int k' b) => bif decide (k = k') then some (decide (a = b)) else none
  | .xv (.bool a), .xv (.bool b) => some (a == b)
  | .xv (.bool a), .kb b => some (a == b)
  | .kb a, .xv (.bool b) => some (a == b)
  | .kb a, .kb b => some (a == b)
  | _, _ => none
def band : Bool → Option Bool → Bool
  | a, none => a
  | a, some b => a && b
def ceq : Ce FM → Ce FM → Option (Option Bool)
  | [], [] => some none
  | .b (.cl x) :: c, .b (.cl y) :: d => match s0eq x y, ceq c d with
    | some a, some b => some (some (band a b))
    | _, _ => none
  | .b (.iz k l n) :: c, .b (.iz k' l' n') :: d => bif decide (k = k') && Nat.beq n n' then (ceq c d).map fun b => some (band (decide (l = l')) b) else none
  | .f j l n :: c, .f j' l' n' :: d => if h : j' = j then (match (FM j).dec with
      | some i => bif Nat.beq n n' then (ceq c d).map fun b => some (band (@decide (l = h ▸ l') (@instDecidableEqList _ i l (h ▸ l'))) b) else none
      | none => none) else none
  | _, _ => none
def bany : Option Bool → Bool
  | none => true
  | some b => b
theorem bany_band (a : Bool) (b : Option Bool) : bany (some (band a b)) = (a && bany b) := by cases b <;> simp [band, bany]
theorem ceq_spec {E : List Ad} : ∀ {c d : Ce FM} {b : Option Bool}, ceq c d = some b → cwf c → cwf d → (bany b = true ↔ cden E c = cden E d)
  | [], [], b, h, _, _ => by simp only [ceq, Option.some.injEq] at h; subst h; simp [bany]
  | .b (.cl x) :: c, .b (.cl y) :: d, b, h, hc, hd => by
    simp only [ceq] at h
    split at h
    · rename_i a b' ha hb
      simp only [Option.some.injEq] at h; subst h
      have ih := ceq_spec (E := E) hb hc.2 hd.2
      rw [bany_band, Bool.and_eq_true, ih]
      simp only [cden, Sg.den, Sg0.den, List.cons_append, List.nil_append, List.cons.injEq]
      refine and_congr ?_ Iff.rfl
      unfold s0eq at ha
      split at ha
      · simp only [cond_eq_ite] at ha
        split at ha
        · rename_i hk
          have := of_decide_eq_true hk; subst this
          simp only [Option.some.injEq] at ha; subst ha
          simp [S0.den]
        · cases ha
      · simp only [Option.some.injEq] at ha; subst ha
        simp [S0.den]
      · simp only [Option.some.injEq] at ha; subst ha
        simp [S0.den]
      · simp only [Option.some.injEq] at ha; subst ha
        simp [S0.den]
      · simp only [Option.some.injEq] at ha; subst ha
        simp [S0.den]
      · cases ha
    · cases h
  | .b (.iz k l n) :: c, .b (.iz k' l' n') :: d, b, h, hc, hd => by
    simp only [ceq, cond_eq_ite] at h
    split at h
    · rename_i hk
      simp only [Bool.and_eq_true, decide_eq_true_eq] at hk
      obtain ⟨rfl, hn⟩ := hk
      have := beq_n hn; subst this
      obtain ⟨b', hb, rfl⟩ := Option.map_eq_some_iff.1 h
      have ih := ceq_spec (E := E) hb hc.2 hd.2
      have h1 : l.length = n := hc.1
      have h2 : l'.length = n := hd.1
      rw [bany_band, Bool.and_eq_true, ih]
      simp only [cden, Sg.den, Sg0.den]
      rw [app_iff (by rw [iv_length, iv_length]; omega), iv_inj]
      simp
    · cases h
  | .f j l n :: c, .f j' l' n' :: d, b, h, hc, hd => by
    simp only [ceq] at h
    split at h
    · rename_i hj
      subst hj
      split at h
      · rename_i i hi
        simp only [cond_eq_ite] at h
        split at h
        · rename_i hk
          have := beq_n hk; subst this
          obtain ⟨b', hb, rfl⟩ := Option.map_eq_some_iff.1 h
          have ih := ceq_spec (E := E) hb hc.2 hd.2
          obtain ⟨h1, h1w⟩ := hc.1
          obtain ⟨h2, h2w⟩ := hd.1
          rw [bany_band, Bool.and_eq_true, ih]
          simp only [cden, Sg.den, decide_eq_true_eq]
          have e1 := fden_length h1w
          have e2 := fden_length h2w
          rw [app_iff (by rw [e1, e2, h1, h2])]
          exact and_congr ⟨fun e => by rw [e], fun e => fden_inj (by rw [hi]; rfl) h1w h2w (by omega) e⟩ Iff.rfl
        · cases h
      · cases h
    · cases h
  | [], _ :: _, _, h, _, _ => by simp [ceq] at h
  | .b (.cl _) :: _, [], _, h, _, _ => by simp [ceq] at h
  | .b (.iz ..) :: _, [], _, h, _, _ => by simp [ceq] at h
  | .f .. :: _, [], _, h, _, _ => by simp [ceq] at h
  | .f .. :: _, .b _ :: _, _, h, _, _ => by simp [ceq] at h
  | .b (.cl _) :: _, .b (.iz ..) :: _, _, h, _, _ => by simp [ceq] at h
  | .b (.cl _) :: _, .f .. :: _, _, h, _, _ => by simp [ceq] at h
  | .b (.iz ..) :: _, .b (.cl _) :: _, _, h, _, _ => by simp [ceq] at h
  | .b (.iz ..) :: _, .f .. :: _, _, h, _, _ => by simp [ceq] at h

/-! ### One operation -/
def isC : Operand → Bool
  | .const _ => true
  | _ => false
abbrev QR (FM : Nat → Fm) := Option (List Prop × TV FM × List (Ad × Vw))
def one (v : Value) : TV FM := .v (.one (.xv v))
def plain : Value → Bool
  | .agg _ => false
  | .tuple _ => false
  | _ => true
def dflt (X : Cx) (S : SS FM) (o : Oper) : QR FM := match opNext X.P S.Td o with
  | some (.value v) => bif plain v then some ([], one v, []) else none
  | _ => none

def qIx (X : Cx) (S : SS FM) (t : TypeId) (x ix : Operand) : QR FM :=
  match evS X S none ix with
  | some (.v (.one (.xv (.int _ n)))) => match X.P.underlying t, evS X S none x with
    | some (.array len e), some (.v (.one (.pt id off))) => (sizeB X.P e).bind fun s =>
      bif isC ix then (bif decide (0 ≤ n ∧ n < len) then some ([], .v (.one (.pt id (off + n.toNat * s))), []) else none)
      else some ([0 ≤ n, n < len], .v (.one (.qt id off n.toNat s 0)), [])
    | some (.array len e), some (.v (.one (.qt id o i st o2))) => (sizeB X.P e).bind fun s =>
      bif isC ix then (bif decide (0 ≤ n ∧ n < len) then some ([], .v (.one (.qt id o i st (o2 + n.toNat * s))), []) else none) else none
    | some (.slice e), some (.v (.one (.sc id o len _ _))) => (sizeB X.P e).bind fun s =>
      bif isbk S.E id then (bif isC ix then some ([0 ≤ n, n < len], .v (.one (.pt id (o + n.toNat * s))), []) else some ([0 ≤ n, n < len], .v (.one (.qt id o n.toNat s 0)), []))
      else bif Nat.beq o 0 then (rdOf S.m S.V S.R 9 id).bind fun (c, φs) => (cdynm c 0 n.toNat s).bind fun m => bif Nat.ble 1 s then some ((0 ≤ n) :: (n < len) :: (n.toNat < m) :: φs, .v (.one (.qt id 0 n.toNat s 0)), []) else none
      else none
    | some (.array _ e), some (.v (.ag c)) => none
    | _, _ => none
  | _ => none

def qIv (X : Cx) (S : SS FM) (t : TypeId) (x ix : Operand) : QR FM :=
  match evS X S none ix, X.P.underlying t, evS X S (some t) x with
  | some (.v (.one (.xv (.int _ n)))), some (.array len e), some (.v (.ag c)) => (sizeB X.P e).bind fun s =>
    bif isC ix then (bif decide (0 ≤ n ∧ n < len) then (ldS X.P e (csub c (n.toNat * s))).map fun v => ([], .v v, []) else none)
    else (cdynm c 0 n.toNat s).bind fun m => (ldS X.P e (dynG c 0 n.toNat s 0)).map fun v => ([0 ≤ n, n < len, n.toNat < m], .v v, [])
  | _, _, _ => none

def qFa (X : Cx) (S : SS FM) (t : TypeId) (x : Operand) (f : Nat) : QR FM :=
  match X.P.underlying t, evS X S none x with
  | some (.struct fs), some (.v (.one (.pt id off))) => match fs[f]? with
    | some fd => (sizeB X.P fd.type).bind fun s => bif Nat.ble 1 s then some ([], .v (.one (.pt id (off + fd.offset))), []) else none
    | none => none
  | some (.struct fs), some (.v (.one (.qt id o i st o2))) => match fs[f]? with
    | some fd => (sizeB X.P fd.type).bind fun s => bif Nat.ble 1 s then some ([], .v (.one (.qt id o i st (o2 + fd.offset))), []) else none
    | none => none
  | _, _ => none

def qFd (X : Cx) (S : SS FM) (t : TypeId) (x : Operand) (f : Nat) : QR FM :=
  match X.P.underlying t, evS X S (some t) x with
  | some (.struct fs), some (.v (.ag c)) => match fs[f]? with
    | some fd => (ldS X.P fd.type (csub c fd.offset)).map fun v => ([], .v v, [])
    | none => none
  | _, _ => none

def evParts (X : Cx) (S : SS FM) : List (Nat × Operand) → Option (List (Nat × SV FM))
  | [] => some []
  | (i, x) :: r => match evS X S none x, evParts X S r with
    | some (.v v), some l => some ((i, v) :: l)
    | _, _ => none
def qBu (X : Cx) (S : SS FM) (t : TypeId) (parts : Array (Nat × Operand)) : QR FM :=
  match X.P.underlying t, zvB X.P t, evParts X S parts.toList with
  | some d, some z, some l => (shp X.P X.fm 30 t).bind fun s => (rgA s z.cells.toList).bind fun c => (plS X.P d).bind fun pl => (bfill S.E.length pl c l).map fun r => ([], .v (.ag r), [])
  | _, _, _ => none

def evList (X : Cx) (S : SS FM) : List Operand → Option (List (SV FM))
  | [] => some []
  | x :: r => match evS X S none x, evList X S r with
    | some (.v v), some l => some (v :: l)
    | _, _ => none

def eqOk (P : Program) (t : TypeId) (ka : List CK) : Bool := isB (aggB P t) true && !(P.eqGuardType P.depth t) && (match eqK P 12 t with
  | some ks => decide (ks = ka)
  | none => false)
def isSh : BinOp → Bool
  | .shl => true
  | .shr => true
  | _ => false
def qBin (X : Cx) (S : SS FM) (op : BinOp) (t : TypeId) (x y : Operand) : QR FM :=
  match evS X S (some t) x, evS X S (some t) y with
  | some (.v (.one (.xv (.int k a)))), some (.v (.one (.xv (.int k' b)))) =>
    bif decide (k = k') || isSh op then (ibin X.nw (isC y && decide (0 ≤ b)) op k a b).map fun (φs, v) => (φs, one v, []) else none
  | some (.v (.ag a)), some (.v (.ag b)) => match op with
    | .eql | .neq => match ckd a, ckd b, ceq a b with
      | some ka, some kb, some c => bif decide (ka = kb) && eqOk X.P t ka then some ([], one (.bool (match op with | .eql => bany c | _ => !bany c)), []) else none
      | _, _, _ => none
    | _ => none
  | _, _ => none

def byt (l : List Int) : Prop := ∀ x ∈ l, 0 ≤ x ∧ x < 256
/-- Texts and nil slices compared; texts put together. -/
def qStr (X : Cx) (S : SS FM) (op : BinOp) (t : TypeId) (x y : Operand) : QR FM :=
  match op, evS X S (some t) x, evS X S (some t) y with
  | .eql, some (.v (.one (.st a))), some (.v (.one (.st b))) => some ([byt a, byt b], one (.bool (decide (a = b))), [])
  | .neq, some (.v (.one (.st a))), some (.v (.one (.st b))) => some ([byt a, byt b], one (.bool (!decide (a = b))), [])
  | .add, some (.v (.one (.st a))), some (.v (.one (.st b))) => some ([a.length + b.length ≤ 9223372036854775807], .v (.one (.st (a ++ b))), [])
  | .eql, some (.v (.one (.sc id o n c _))), some (.v (.one (.xv (.slice none 0 0)))) => match X.P.underlying t with
    | some (.slice _) => some ([], bif isbk S.E id then .v (.one (.kb false)) else one (.bool (bas S.E id o).isNone), [])
    | _ => none
  | .neq, some (.v (.one (.sc id o n c _))), some (.v (.one (.xv (.slice none 0 0)))) => match X.P.underlying t with
    | some (.slice _) => some ([], bif isbk S.E id then .v (.one (.kb true)) else one (.bool (!(bas S.E id o).isNone)), [])
    | _ => none
  | .eql, some (.v (.one (.mv id))), some (.v (.one (.xv (.map none)))) => match X.P.underlying t with
    | some (.map _ _) => some ([], .v (.one (.kb false)), [])
    | _ => none
  | .eql, some (.v (.one (.pt id off))), some (.v (.one (.xv (.pointer none)))) => match X.P.underlying t with
    | some (.pointer _) => some ([], .v (.one (.kb false)), [])
    | _ => none
  | .eql, some (.v (.one (.xv (.pointer none)))), some (.v (.one (.xv (.pointer none)))) => match X.P.underlying t with
    | some (.pointer _) => some ([], .v (.one (.kb true)), [])
    | _ => none
  | .neq, some (.v (.one (.mv id))), some (.v (.one (.xv (.map none)))) => match X.P.underlying t with
    | some (.map _ _) => some ([], .v (.one (.kb true)), [])
    | _ => none
  | .neq, some (.v (.one (.pt id off))), some (.v (.one (.xv (.pointer none)))) => match X.P.underlying t with
    | some (.pointer _) => some ([], .v (.one (.kb true)), [])
    | _ => none
  | .neq, some (.v (.one (.xv (.pointer none)))), some (.v (.one (.xv (.pointer none)))) => match X.P.underlying t with
    | some (.pointer _) => some ([], .v (.one (.kb false)), [])
    | _ => none
  | _, _, _ => none

def num? (X : Cx) (S : SS FM) : Option Operand → Option (Option Int)
  | none => some none
  | some y => match evS X S none y with
    | some (.v (.one (.xv (.int _ n)))) => some (some n)
    | _ => none
def oC : Option Operand → Bool
  | none => true
  | some x => isC x

/-- A slice: of an array, by numbers that are known; of a slice from its start on; or anywhere. -/
def qSl (X : Cx) (S : SS FM) (t : TypeId) (x : Operand) (lo hi mx : Option Operand) : QR FM :=
  match num? X S lo, num? X S hi, num? X S mx with
  | some l, some h, some m =>
    bif m.isSome && !h.isSome then none else
    match X.P.underlying t, evS X S none x with
    | some (.array n e), some (.v (.one (.pt id off))) => (sizeB X.P e).bind fun s =>
      bif isbk S.E id then
        (bif oC lo && oC hi && oC mx then
          (bif decide (0 ≤ l.getD 0 ∧ l.getD 0 ≤ h.getD n ∧ h.getD n ≤ m.getD n ∧ m.getD n ≤ n ∧ (l.getD 0 = 0 ∨ l.getD 0 < m.getD n)) then
            some ([], .v (.one (.sc id (off + (l.getD 0).toNat * s) (h.getD n - l.getD 0).toNat (m.getD n - l.getD 0).toNat true)), []) else none)
        else bif oC lo && decide (l.getD 0 = 0) then
          some ([0 ≤ h.getD n, h.getD n ≤ m.getD n, m.getD n ≤ n], .v (.one (.sc id off (h.getD n).toNat (m.getD n).toNat true)), [])
        else none)
      else none
    | some (.slice e), some (.v (.one (.sc id o len cap tr))) => (sizeB X.P e).bind fun s =>
      bif oC lo && decide (l.getD 0 = 0) then
        (match h, m with
        | none, none => some ([len ≤ cap], .v (.one (.sc id o len cap tr)), [])
        | some h, none => some ([0 ≤ h, h ≤ cap], .v (.one (.sc id o h.toNat cap true)), [])
        | some h, some m => some ([0 ≤ h, h ≤ m, m ≤ cap], .v (.one (.sc id o h.toNat m.toNat true)), [])
        | none, some _ => none)
      else bif Nat.beq o 0 && Nat.blt id S.E.length then
        match h, m with
        | none, none => some ([0 ≤ l.getD 0, (l.getD 0).toNat ≤ len, len ≤ cap], .v (.one (.sc S.E.length 0 (len - (l.getD 0).toNat) (cap - (l.getD 0).toNat) false)), [(.ad (slA (bas S.E id 0) (l.getD 0).toNat cap s), ⟨S.E.length, id, (l.getD 0).toNat, cap, len - (l.getD 0).toNat, s⟩)])
        | some h, none => some ([0 ≤ l.getD 0, l.getD 0 ≤ h, h ≤ cap], .v (.one (.sc S.E.length 0 (h.toNat - (l.getD 0).toNat) (cap - (l.getD 0).toNat) false)), [(.ad (slA (bas S.E id 0) (l.getD 0).toNat cap s), ⟨S.E.length, id, (l.getD 0).toNat, cap, h.toNat - (l.getD 0).toNat, s⟩)])
        | some h, some m => some ([0 ≤ l.getD 0, l.getD 0 ≤ h, h ≤ m, m ≤ cap], .v (.one (.sc S.E.length 0 (h.toNat - (l.getD 0).toNat) (m.toNat - (l.getD 0).toNat) false)), [(.ad (slA (bas S.E id 0) (l.getD 0).toNat m.toNat s), ⟨S.E.length, id, (l.getD 0).toNat, m.toNat, h.toNat - (l.getD 0).toNat, s⟩)])
        | none, some _ => none
      else none
    | some (.slice e), some (.v (.one (.xv (.slice none 0 0)))) => (sizeB X.P e).map fun _ => ([l.getD 0 = 0, h.getD 0 = 0, m.getD 0 = 0], one (.slice none 0 0), [])
    | _, _ => none
  | _, _, _ => none

def stepQ (X : Cx) (S : SS FM) (o : Oper) : QR FM :=
  match o.op with
  | .move x => (evS X S (some o.type) x).map fun v => ([], v, [])
  | .assign x => (evS X S (some o.type) x).map fun v => ([], v, [])
  | .nilCheck x => match evS X S none x with
    | some (.v (.one (.pt a b))) => some ([], .v (.one (.pt a b)), [])
    | some (.v (.one (.qt a b c d e))) => some ([], .v (.one (.qt a b c d e)), [])
    | some (.fn f a b) => some ([], .fn f a b, [])
    | _ => dflt X S o
  | .extract t ix => match evS X S none t with
    | some (.tup l) => (l[ix]?).map fun v => ([], .v v, [])
    | _ => none
  | .load ty a => match evS X S none a with
    | some (.v (.one a)) => (loadS X.P S ty a).map fun (φs, v) => (φs, .v v, [])
    | _ => none
  | .indexAddr t x ix => qIx X S t x ix
  | .index t x ix => match qIv X S t x ix with
    | some r => some r
    | none => match evS X S none ix, X.P.underlying t, evS X S (some t) x with
      | some (.v (.one (.xv (.int _ n)))), some .string, some (.v (.one (.st l))) => some ([0 ≤ n, n.toNat < l.length, byt l], one (.int .u8 (l.getD n.toNat 0)), [])
      | _, _, _ => none
  | .fieldAddr t x f => qFa X S t x f
  | .field t x f => qFd X S t x f
  | .build t parts => qBu X S t parts
  | .makeFunc (.func f) a b => match evList X S a.toList, evList X S b.toList with
    | some a, some b => some ([], .fn f a b, [])
    | _, _ => none
  | .slice t x lo hi mx => qSl X S t x lo hi mx
  | .binOp op t x y _ => match qBin X S op t x y with
    | some r => some r
    | none => match qStr X S op t x y with
      | some r => some r
      | none => dflt X S o
  | .call { callee := .builtin .len, args := ⟨[x]⟩, argTypes := ⟨[t]⟩ } => match X.P.underlying t, evS X S (some t) x with
    | some .string, some (.v (.one (.st l))) => some ([], one (.int .i64 (l.length : Nat)), [])
    | _, _ => dflt X S o
  | .convert src dst x => match evS X S none x, X.P.underlying src, X.P.underlying dst with
    | some (.v (.one (.xv (.int _ n)))), some (.int _), some (.int k) => bif memK k X.nw then some ([k.min ≤ n, n ≤ k.max], one (.int k n), []) else some ([], one (.int k (k.wrap n)), [])
    | _, _, _ => dflt X S o
  | .unOp op _ x => match op, evS X S none x with
    | .not, some (.v (.one (.kb b))) => some ([], .v (.one (.kb (!b))), [])
    | .neg, some (.v (.one (.xv (.int k n)))) => bif memK k X.nw then some ([k.min ≤ 0 - n, 0 - n ≤ k.max], one (.int k (0 - n)), []) else some ([], one (.int k (k.wrap (0 - n))), [])
    | .xor, some (.v (.one (.xv (.int k n)))) => some ([], one (.int k (bxr k (if k.signed then -1 else k.max) n)), [])
    | _, _ => dflt X S o
  | _ => dflt X S o
end
end Go.Px
