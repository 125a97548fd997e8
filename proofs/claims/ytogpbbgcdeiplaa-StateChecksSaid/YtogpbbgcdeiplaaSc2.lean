/-
  Walks by computing, their engine and the plain laws under them, in parts. No condition.
-/
import Derived.Test.YtogpbbgcdeiplaaSc1
section
/-
  One operation that yields a value, by computing: what it yields and what must hold for it; that it does so. No condition.
-/
set_option linter.all false
namespace Go.Px
open Go.RowKit

section
variable {FM : Nat → Fm}

/-! ### Records put together -/
theorem foldl_set (off : Nat) : ∀ (vs : List Value) (k : Nat) (cs : Array Value), off + k + vs.length ≤ cs.size →
    ((vs.zipIdx k).foldl (fun cs (x : Value × Nat) => cs.setIfInBounds (off + x.2) x.1) cs).toList = blit cs.toList (off + k) vs
  | [], k, cs, _ => by simp [blit]
  | v :: vs, k, cs, h => by
    simp only [List.length_cons] at h
    have ih := foldl_set off vs (k + 1) (cs.setIfInBounds (off + k) v) (by simp; omega)
    simp only [List.zipIdx_cons, List.foldl_cons]
    rw [ih]
    simp only [Array.toList_setIfInBounds, blit]
    have hsz : cs.toList.length = cs.size := by simp
    generalize cs.toList = L at hsz ⊢
    rw [List.set_eq_take_append_cons_drop, if_pos (by omega)]
    have hl : (L.take (off + k)).length = off + k := by simp; omega
    have e1 : (L.take (off + k) ++ v :: L.drop (off + k + 1)).take (off + (k + 1)) = L.take (off + k) ++ [v] := by
      rw [List.take_append, show (L.take (off + k)).take (off + (k + 1)) = L.take (off + k) from List.take_of_length_le (by omega), hl, show off + (k + 1) - (off + k) = 1 by omega]
      rfl
    have e2 : (L.take (off + k) ++ v :: L.drop (off + k + 1)).drop (off + (k + 1) + vs.length) = L.drop (off + k + (v :: vs).length) := by
      rw [List.drop_append, show (L.take (off + k)).drop (off + (k + 1) + vs.length) = [] from List.drop_of_length_le (by omega), hl, show off + (k + 1) + vs.length - (off + k) = vs.length + 1 by omega, List.drop_succ_cons, List.drop_drop]
      simp only [List.nil_append, List.length_cons]
      congr 1; omega
    rw [e1, e2]
    simp

def bfill (N : Nat) (place : Nat → Option (Nat × Nat)) : Ce FM → List (Nat × SV FM) → Option (Ce FM)
  | c, [] => some c
  | c, (i, v) :: r => match place i with
    | some (off, size) => bif Nat.beq (cn v.ce) size && cok N v.ce then (cput c off v.ce).bind fun c => bfill N place c r else none
    | none => none
def sps (E : List Ad) : List (Nat × SV FM) → List (Nat × Value)
  | [] => []
  | (i, v) :: r => (i, v.den E) :: sps E r
def spwf : List (Nat × SV FM) → Prop
  | [] => True
  | (_, v) :: r => v.wf ∧ spwf r
theorem SV.ce_wf {v : SV FM} (h : v.wf) : cwf v.ce := by
  cases v with
  | one x => exact ⟨trivial, trivial⟩
  | ag c => exact h
theorem SV.ce_cells {E : List Ad} {N : Nat} {v : SV FM} (h : cok N v.ce = true) : (v.den E).cells = (cden E v.ce).toArray := by
  refine SV.ce_den v fun y e => ?_
  subst e
  simp only [SV.ce, cok, Sg.ok, Sg0.ok, Bool.and_eq_true] at h
  exact h.1.1
theorem bfill_spec {E : List Ad} {N : Nat} {place : Nat → Option (Nat × Nat)} : ∀ {l : List (Nat × SV FM)} {c r : Ce FM}, bfill N place c l = some r → cwf c → cok N c = true → spwf l →
    Instr.fill place (cden E c).toArray (sps E l) = some (cden E r).toArray ∧ cwf r ∧ cok N r = true ∧ cn r = cn c
  | [], c, r, h, hw, hk, _ => by
    simp only [bfill, Option.some.injEq] at h; subst h
    exact ⟨rfl, hw, hk, rfl⟩
  | (i, v) :: l, c, r, h, hw, hk, hl => by
    simp only [bfill] at h
    split at h
    · rename_i off size hp
      simp only [cond_eq_ite] at h
      split at h
      · rename_i hc
        simp only [Bool.and_eq_true] at hc
        have hsz := beq_n hc.1
        obtain ⟨c', hc', h⟩ := Option.bind_eq_some_iff.1 h
        have hvw := SV.ce_wf hl.1
        obtain ⟨g1, g2, g3, g4, g5⟩ := cput_spec (E := E) hc' hw hk hvw hc.2
        obtain ⟨q1, q2, q3, q4⟩ := bfill_spec (E := E) h g2 g3 hl.2
        refine ⟨?_, q2, q3, by rw [q4, g4]⟩
        have hcl := SV.ce_cells (E := E) hc.2
        have hlen := clen (E := E) hvw
        have hlen2 := clen (E := E) hw
        simp only [sps, Instr.fill, hp]
        rw [if_neg]
        · rw [← q1]
          congr 1
          rw [hcl]
          have := foldl_set off (cden E v.ce) 0 (cden E c).toArray (by simp; omega)
          simp only [Nat.add_zero] at this
          apply Array.toList_inj.1
          rw [← Array.foldl_toList]
          simp only [Array.toList_zipIdx]
          rw [this, g1]
        · rw [hcl]
          simp only [List.size_toArray]
          simp only [bne_iff_ne, ne_eq, Bool.or_eq_true, decide_eq_true_eq, not_or, Decidable.not_not]
          omega
      · cases h
    · cases h

def plS (P : Program) (d : TypeDesc) : Option (Nat → Option (Nat × Nat)) := match d with
  | .struct fs => (pureRun P (fs.mapM fun f => do pure (f.offset, ← sizeOf f.type))).map fun pl i => pl[i]?
  | .array _ e => (sizeB P e).map fun s i => some (i * s, s)
  | _ => none
def zvB (P : Program) (t : TypeId) : Option Value := pureRun P (zeroValue t)

theorem build_run {P : Program} {t : TypeId} {d : TypeDesc} {z : Value} {place : Nat → Option (Nat × Nat)} {parts : Array (Nat × Value)} {r : Array Value} (hu : P.underlying t = some d) (hz : zvB P t = some z) (hp : plS P d = some place)
    (hf : Instr.fill place z.cells parts.toList = some r) (w : World) : (Instr.build t parts).run P w = .ok (.agg r) w := by
  unfold Instr.build
  simp only [Sem.run_bind, pureRun_spec hz w, Result.andThen_ok, run_underlying' hu]
  cases d <;> simp only [plS, reduceCtorEq] at hp
  · rename_i n e
    obtain ⟨s, hs, rfl⟩ := Option.map_eq_some_iff.1 hp
    simp only [Sem.run_bind, pureRun_spec hs w, Result.andThen_ok]
    rw [hf]
    simp
  · rename_i fs
    obtain ⟨pl, hpl, rfl⟩ := Option.map_eq_some_iff.1 hp
    simp only [Sem.run_bind, pureRun_spec hpl w, Result.andThen_ok]
    rw [hf]
    simp

theorem part_run {P : Program} {ty off : Nat} {cs : List Value} {v : Value} (h : (aggB P ty = some false ∧ cs[off]? = some v) ∨ (∃ n, aggB P ty = some true ∧ sizeB P ty = some n ∧ off + n ≤ cs.length ∧ v = .agg ((cs.drop off).take n).toArray)) (w : World) :
    (part ty cs.toArray off).run P w = .ok v w := by
  unfold part
  rcases h with ⟨h1, h2⟩ | ⟨n, h1, h2, h3, rfl⟩
  · rw [Sem.run_bind, pureRun_spec h1 w]
    simp [h2]
  · rw [Sem.run_bind, pureRun_spec h1 w]
    simp only [Result.andThen_ok, if_true, Sem.run_bind, pureRun_spec h2 w, Sem.run_pure]
    simp

/-! ### Equality of cells -/
def s0kd : S0 → Option CK
  | .xv (.int k _) => some (.int k)
  | .xv (.bool _) => some .bool
  | .kb _ => some .bool
  | _ => none
def ckd : Ce FM → Option (List CK)
  | [] => some []
  | .b (.cl x) :: c => match s0kd x, ckd c with
    | some k, some l => some (k :: l)
    | _, _ => none
  | .b (.iz k _ n) :: c => (ckd c).map fun l => List.replicate n (.int k) ++ l
  | .f j _ n :: c => match (FM j).kds, ckd c with
    | some ks, some l => some ((List.replicate n ks).flatten ++ l)
    | _, _ => none
theorem fden_kd {F : Fm} {ks : List CK} (h : F.kds = some ks) : ∀ {l : List F.α}, (∀ a ∈ l, F.wf a) → (fden F l).map kd = ((List.replicate l.length ks).flatten).map some
  | [], _ => rfl
  | a :: l, hw => by
    simp only [fden, List.map_append, List.length_cons, List.replicate_succ, List.flatten_cons]
    rw [F.hkd ks h a (hw a (by simp)), fden_kd h fun b hb => hw b (by simp [hb])]
theorem fden_inj {F : Fm} (h : F.dec.isSome = true) : ∀ {l l' : List F.α}, (∀ a ∈ l, F.wf a) → (∀ a ∈ l', F.wf a) → l.length = l'.length → fden F l = fden F l' → l = l'
  | [], [], _, _, _, _ => rfl
  | [], _ :: _, _, _, hl, _ => by simp at hl
  | _ :: _, [], _, _, hl, _ => by simp at hl
  | a :: l, b :: l', hw, hw', hl, he => by
    have h1 := c0len (E := []) ((F.hwf a).1 (hw a (by simp)))
    have h2 := c0len (E := []) ((F.hwf b).1 (hw' b (by simp)))
    rw [F.hsz] at h1 h2
    simp only [fden] at he
    obtain ⟨e1, e2⟩ := List.append_inj he (by omega)
    rw [F.hdec h a b (hw a (by simp)) (hw' b (by simp)) e1, fden_inj h (fun c hc => hw c (by simp [hc])) (fun c hc => hw' c (by simp [hc])) (by simpa using hl) e2]
theorem ckd_spec {E : List Ad} : ∀ {c : Ce FM} {ks : List CK}, ckd c = some ks → cwf c → (cden E c).map kd = ks.map some
  | [], ks, h, _ => by simp [ckd] at h; subst h; rfl
  | .b (.cl x) :: c, ks, h, hw => by
    simp only [ckd] at h
    split at h
    · rename_i k l hk hl
      simp only [Option.some.injEq] at h; subst h
      have ih := ckd_spec (E := E) hl hw.2
      simp only [cden, Sg.den, Sg0.den, List.cons_append, List.nil_append, List.map_cons, ih]
      congr 1
      unfold s0kd at hk
      split at hk
      · simp only [Option.some.injEq] at hk; subst hk; rfl
      · simp only [Option.some.injEq] at hk; subst hk; rfl
      · simp only [Option.some.injEq] at hk; subst hk; rfl
      · cases hk
    · cases h
  | .b (.iz k l n) :: c, ks, h, hw => by
    obtain ⟨r, hr, rfl⟩ := Option.map_eq_some_iff.1 h
    have ih := ckd_spec (E := E) hr hw.2
    have hn : l.length = n := hw.1
    simp only [cden, Sg.den, Sg0.den, List.map_append, ih, kd_iv, hn]
    simp
  | .f j l n :: c, ks, h, hw => by
    simp only [ckd] at h
    split at h
    · rename_i ks' r hk hr
      simp only [Option.some.injEq] at h; subst h
      have ih := ckd_spec (E := E) hr hw.2
      obtain ⟨hl, ha⟩ := hw.1
      simp only [cden, Sg.den, List.map_append, ih]
      rw [fden_kd hk ha, hl]
    · cases h

def s0eq : S0 → S0 → Option Bool
  | .xv (.int k a), .xv (.int k' b) => bif decide (k = k') then some (decide (a = b)) else none
  | .xv (.bool a), .xv (.bool b) => some (a == b)
  | .xv (.bool a), .kb b => some (a == b)
  | .kb a, .xv (.bool b) => some (a == b)
  | .kb a, .kb b => some (a == b)
  | _, _ => none
def band : Bool → Option Bool → Bool
  | a, none => a
  | a, some b => a && b
def ceq : Ce FM → Ce FM → Option (Option Bool)
  | [], [] => some none
  | .b (.cl x) :: c, .b (.cl y) :: d => match s0eq x y, ceq c d with
    | some a, some b => some (some (band a b))
    | _, _ => none
  | .b (.iz k l n) :: c, .b (.iz k' l' n') :: d => bif decide (k = k') && Nat.beq n n' then (ceq c d).map fun b => some (band (decide (l = l')) b) else none
  | .f j l n :: c, .f j' l' n' :: d => if h : j' = j then (match (FM j).dec with
      | some i => bif Nat.beq n n' then (ceq c d).map fun b => some (band (@decide (l = h ▸ l') (@instDecidableEqList _ i l (h ▸ l'))) b) else none
      | none => none) else none
  | _, _ => none
def bany : Option Bool → Bool
  | none => true
  | some b => b
theorem bany_band (a : Bool) (b : Option Bool) : bany (some (band a b)) = (a && bany b) := by cases b <;> simp [band, bany]
theorem ceq_spec {E : List Ad} : ∀ {c d : Ce FM} {b : Option Bool}, ceq c d = some b → cwf c → cwf d → (bany b = true ↔ cden E c = cden E d)
  | [], [], b, h, _, _ => by simp only [ceq, Option.some.injEq] at h; subst h; simp [bany]
  | .b (.cl x) :: c, .b (.cl y) :: d, b, h, hc, hd => by
    simp only [ceq] at h
    split at h
    · rename_i a b' ha hb
      simp only [Option.some.injEq] at h; subst h
      have ih := ceq_spec (E := E) hb hc.2 hd.2
      rw [bany_band, Bool.and_eq_true, ih]
      simp only [cden, Sg.den, Sg0.den, List.cons_append, List.nil_append, List.cons.injEq]
      refine and_congr ?_ Iff.rfl
      unfold s0eq at ha
      split at ha
      · simp only [cond_eq_ite] at ha
        split at ha
        · rename_i hk
          have := of_decide_eq_true hk; subst this
          simp only [Option.some.injEq] at ha; subst ha
          simp [S0.den]
        · cases ha
      · simp only [Option.some.injEq] at ha; subst ha
        simp [S0.den]
      · simp only [Option.some.injEq] at ha; subst ha
        simp [S0.den]
      · simp only [Option.some.injEq] at ha; subst ha
        simp [S0.den]
      · simp only [Option.some.injEq] at ha; subst ha
        simp [S0.den]
      · cases ha
    · cases h
  | .b (.iz k l n) :: c, .b (.iz k' l' n') :: d, b, h, hc, hd => by
    simp only [ceq, cond_eq_ite] at h
    split at h
    · rename_i hk
      simp only [Bool.and_eq_true, decide_eq_true_eq] at hk
      obtain ⟨rfl, hn⟩ := hk
      have := beq_n hn; subst this
      obtain ⟨b', hb, rfl⟩ := Option.map_eq_some_iff.1 h
      have ih := ceq_spec (E := E) hb hc.2 hd.2
      have h1 : l.length = n := hc.1
      have h2 : l'.length = n := hd.1
      rw [bany_band, Bool.and_eq_true, ih]
      simp only [cden, Sg.den, Sg0.den]
      rw [app_iff (by rw [iv_length, iv_length]; omega), iv_inj]
      simp
    · cases h
  | .f j l n :: c, .f j' l' n' :: d, b, h, hc, hd => by
    simp only [ceq] at h
    split at h
    · rename_i hj
      subst hj
      split at h
      · rename_i i hi
        simp only [cond_eq_ite] at h
        split at h
        · rename_i hk
          have := beq_n hk; subst this
          obtain ⟨b', hb, rfl⟩ := Option.map_eq_some_iff.1 h
          have ih := ceq_spec (E := E) hb hc.2 hd.2
          obtain ⟨h1, h1w⟩ := hc.1
          obtain ⟨h2, h2w⟩ := hd.1
          rw [bany_band, Bool.and_eq_true, ih]
          simp only [cden, Sg.den, decide_eq_true_eq]
          have e1 := fden_length h1w
          have e2 := fden_length h2w
          rw [app_iff (by rw [e1, e2, h1, h2])]
          exact and_congr ⟨fun e => by rw [e], fun e => fden_inj (by rw [hi]; rfl) h1w h2w (by omega) e⟩ Iff.rfl
        · cases h
      · cases h
    · cases h
  | [], _ :: _, _, h, _, _ => by simp [ceq] at h
  | .b (.cl _) :: _, [], _, h, _, _ => by simp [ceq] at h
  | .b (.iz ..) :: _, [], _, h, _, _ => by simp [ceq] at h
  | .f .. :: _, [], _, h, _, _ => by simp [ceq] at h
  | .f .. :: _, .b _ :: _, _, h, _, _ => by simp [ceq] at h
  | .b (.cl _) :: _, .b (.iz ..) :: _, _, h, _, _ => by simp [ceq] at h
  | .b (.cl _) :: _, .f .. :: _, _, h, _, _ => by simp [ceq] at h
  | .b (.iz ..) :: _, .b (.cl _) :: _, _, h, _, _ => by simp [ceq] at h
  | .b (.iz ..) :: _, .f .. :: _, _, h, _, _ => by simp [ceq] at h

/-! ### One operation -/
def isC : Operand → Bool
  | .const _ => true
  | _ => false
abbrev QR (FM : Nat → Fm) := Option (List Prop × TV FM × List (Ad × Vw))
def one (v : Value) : TV FM := .v (.one (.xv v))
def plain : Value → Bool
  | .agg _ => false
  | .tuple _ => false
  | _ => true
def dflt (X : Cx) (S : SS FM) (o : Oper) : QR FM := match opNext X.P S.Td o with
  | some (.value v) => bif plain v then some ([], one v, []) else none
  | _ => none

def qIx (X : Cx) (S : SS FM) (t : TypeId) (x ix : Operand) : QR FM :=
  match evS X S none ix with
  | some (.v (.one (.xv (.int _ n)))) => match X.P.underlying t, evS X S none x with
    | some (.array len e), some (.v (.one (.pt id off))) => (sizeB X.P e).bind fun s =>
      bif isC ix then (bif decide (0 ≤ n ∧ n < len) then some ([], .v (.one (.pt id (off + n.toNat * s))), []) else none)
      else some ([0 ≤ n, n < len], .v (.one (.qt id off n.toNat s 0)), [])
    | some (.array len e), some (.v (.one (.qt id o i st o2))) => (sizeB X.P e).bind fun s =>
      bif isC ix then (bif decide (0 ≤ n ∧ n < len) then some ([], .v (.one (.qt id o i st (o2 + n.toNat * s))), []) else none) else none
    | some (.slice e), some (.v (.one (.sc id o len _ _))) => (sizeB X.P e).bind fun s =>
      bif isbk S.E id then (bif isC ix then some ([0 ≤ n, n < len], .v (.one (.pt id (o + n.toNat * s))), []) else some ([0 ≤ n, n < len], .v (.one (.qt id o n.toNat s 0)), []))
      else bif Nat.beq o 0 then (rdOf S.m S.V S.R 9 id).bind fun (c, φs) => (cdynm c 0 n.toNat s).bind fun m => bif Nat.ble 1 s then some ((0 ≤ n) :: (n < len) :: (n.toNat < m) :: φs, .v (.one (.qt id 0 n.toNat s 0)), []) else none
      else none
    | some (.array _ e), some (.v (.ag c)) => none
    | _, _ => none
  | _ => none

def qIv (X : Cx) (S : SS FM) (t : TypeId) (x ix : Operand) : QR FM :=
  match evS X S none ix, X.P.underlying t, evS X S (some t) x with
  | some (.v (.one (.xv (.int _ n)))), some (.array len e), some (.v (.ag c)) => (sizeB X.P e).bind fun s =>
    bif isC ix then (bif decide (0 ≤ n ∧ n < len) then (ldS X.P e (csub c (n.toNat * s))).map fun v => ([], .v v, []) else none)
    else (cdynm c 0 n.toNat s).bind fun m => (ldS X.P e (dynG c 0 n.toNat s 0)).map fun v => ([0 ≤ n, n < len, n.toNat < m], .v v, [])
  | _, _, _ => none

def qFa (X : Cx) (S : SS FM) (t : TypeId) (x : Operand) (f : Nat) : QR FM :=
  match X.P.underlying t, evS X S none x with
  | some (.struct fs), some (.v (.one (.pt id off))) => match fs[f]? with
    | some fd => (sizeB X.P fd.type).bind fun s => bif Nat.ble 1 s then some ([], .v (.one (.pt id (off + fd.offset))), []) else none
    | none => none
  | some (.struct fs), some (.v (.one (.qt id o i st o2))) => match fs[f]? with
    | some fd => (sizeB X.P fd.type).bind fun s => bif Nat.ble 1 s then some ([], .v (.one (.qt id o i st (o2 + fd.offset))), []) else none
    | none => none
  | _, _ => none

def qFd (X : Cx) (S : SS FM) (t : TypeId) (x : Operand) (f : Nat) : QR FM :=
  match X.P.underlying t, evS X S (some t) x with
  | some (.struct fs), some (.v (.ag c)) => match fs[f]? with
    | some fd => (ldS X.P fd.type (csub c fd.offset)).map fun v => ([], .v v, [])
    | none => none
  | _, _ => none

def evParts (X : Cx) (S : SS FM) : List (Nat × Operand) → Option (List (Nat × SV FM))
  | [] => some []
  | (i, x) :: r => match evS X S none x, evParts X S r with
    | some (.v v), some l => some ((i, v) :: l)
    | _, _ => none
def qBu (X : Cx) (S : SS FM) (t : TypeId) (parts : Array (Nat × Operand)) : QR FM :=
  match X.P.underlying t, zvB X.P t, evParts X S parts.toList with
  | some d, some z, some l => (shp X.P X.fm 30 t).bind fun s => (rgA s z.cells.toList).bind fun c => (plS X.P d).bind fun pl => (bfill S.E.length pl c l).map fun r => ([], .v (.ag r), [])
  | _, _, _ => none

def evList (X : Cx) (S : SS FM) : List Operand → Option (List (SV FM))
  | [] => some []
  | x :: r => match evS X S none x, evList X S r with
    | some (.v v), some l => some (v :: l)
    | _, _ => none

def eqOk (P : Program) (t : TypeId) (ka : List CK) : Bool := isB (aggB P t) true && !(P.eqGuardType P.depth t) && (match eqK P 12 t with
  | some ks => decide (ks = ka)
  | none => false)
def isSh : BinOp → Bool
  | .shl => true
  | .shr => true
  | _ => false
def qBin (X : Cx) (S : SS FM) (op : BinOp) (t : TypeId) (x y : Operand) : QR FM :=
  match evS X S (some t) x, evS X S (some t) y with
  | some (.v (.one (.xv (.int k a)))), some (.v (.one (.xv (.int k' b)))) =>
    bif decide (k = k') || isSh op then (ibin X.nw (isC y && decide (0 ≤ b)) op k a b).map fun (φs, v) => (φs, one v, []) else none
  | some (.v (.ag a)), some (.v (.ag b)) => match op with
    | .eql | .neq => match ckd a, ckd b, ceq a b with
      | some ka, some kb, some c => bif decide (ka = kb) && eqOk X.P t ka then some ([], one (.bool (match op with | .eql => bany c | _ => !bany c)), []) else none
      | _, _, _ => none
    | _ => none
  | _, _ => none

def byt (l : List Int) : Prop := ∀ x ∈ l, 0 ≤ x ∧ x < 256
/-- Texts and nil slices compared; texts put together. -/
def qStr (X : Cx) (S : SS FM) (op : BinOp) (t : TypeId) (x y : Operand) : QR FM :=
  match op, evS X S (some t) x, evS X S (some t) y with
  | .eql, some (.v (.one (.st a))), some (.v (.one (.st b))) => some ([byt a, byt b], one (.bool (decide (a = b))), [])
  | .neq, some (.v (.one (.st a))), some (.v (.one (.st b))) => some ([byt a, byt b], one (.bool (!decide (a = b))), [])
  | .add, some (.v (.one (.st a))), some (.v (.one (.st b))) => some ([a.length + b.length ≤ 9223372036854775807], .v (.one (.st (a ++ b))), [])
  | .eql, some (.v (.one (.sc id o n c _))), some (.v (.one (.xv (.slice none 0 0)))) => match X.P.underlying t with
    | some (.slice _) => some ([], bif isbk S.E id then .v (.one (.kb false)) else one (.bool (bas S.E id o).isNone), [])
    | _ => none
  | .neq, some (.v (.one (.sc id o n c _))), some (.v (.one (.xv (.slice none 0 0)))) => match X.P.underlying t with
    | some (.slice _) => some ([], bif isbk S.E id then .v (.one (.kb true)) else one (.bool (!(bas S.E id o).isNone)), [])
    | _ => none
  | .eql, some (.v (.one (.mv id))), some (.v (.one (.xv (.map none)))) => match X.P.underlying t with
    | some (.map _ _) => some ([], .v (.one (.kb false)), [])
    | _ => none
  | .eql, some (.v (.one (.pt id off))), some (.v (.one (.xv (.pointer none)))) => match X.P.underlying t with
    | some (.pointer _) => some ([], .v (.one (.kb false)), [])
    | _ => none
  | .eql, some (.v (.one (.xv (.pointer none)))), some (.v (.one (.xv (.pointer none)))) => match X.P.underlying t with
    | some (.pointer _) => some ([], .v (.one (.kb true)), [])
    | _ => none
  | .neq, some (.v (.one (.mv id))), some (.v (.one (.xv (.map none)))) => match X.P.underlying t with
    | some (.map _ _) => some ([], .v (.one (.kb true)), [])
    | _ => none
  | .neq, some (.v (.one (.pt id off))), some (.v (.one (.xv (.pointer none)))) => match X.P.underlying t with
    | some (.pointer _) => some ([], .v (.one (.kb true)), [])
    | _ => none
  | .neq, some (.v (.one (.xv (.pointer none)))), some (.v (.one (.xv (.pointer none)))) => match X.P.underlying t with
    | some (.pointer _) => some ([], .v (.one (.kb false)), [])
    | _ => none
  | _, _, _ => none

def num? (X : Cx) (S : SS FM) : Option Operand → Option (Option Int)
  | none => some none
  | some y => match evS X S none y with
    | some (.v (.one (.xv (.int _ n)))) => some (some n)
    | _ => none
def oC : Option Operand → Bool
  | none => true
  | some x => isC x

/-- A slice: of an array, by numbers that are known; of a slice from its start on; or anywhere. -/
def qSl (X : Cx) (S : SS FM) (t : TypeId) (x : Operand) (lo hi mx : Option Operand) : QR FM :=
  match num? X S lo, num? X S hi, num? X S mx with
  | some l, some h, some m =>
    bif m.isSome && !h.isSome then none else
    match X.P.underlying t, evS X S none x with
    | some (.array n e), some (.v (.one (.pt id off))) => (sizeB X.P e).bind fun s =>
      bif isbk S.E id then
        (bif oC lo && oC hi && oC mx then
          (bif decide (0 ≤ l.getD 0 ∧ l.getD 0 ≤ h.getD n ∧ h.getD n ≤ m.getD n ∧ m.getD n ≤ n ∧ (l.getD 0 = 0 ∨ l.getD 0 < m.getD n)) then
            some ([], .v (.one (.sc id (off + (l.getD 0).toNat * s) (h.getD n - l.getD 0).toNat (m.getD n - l.getD 0).toNat true)), []) else none)
        else bif oC lo && decide (l.getD 0 = 0) then
          some ([0 ≤ h.getD n, h.getD n ≤ m.getD n, m.getD n ≤ n], .v (.one (.sc id off (h.getD n).toNat (m.getD n).toNat true)), [])
        else none)
      else none
    | some (.slice e), some (.v (.one (.sc id o len cap tr))) => (sizeB X.P e).bind fun s =>
      bif oC lo && decide (l.getD 0 = 0) then
        (match h, m with
        | none, none => some ([len ≤ cap], .v (.one (.sc id o len cap tr)), [])
        | some h, none => some ([0 ≤ h, h ≤ cap], .v (.one (.sc id o h.toNat cap true)), [])
        | some h, some m => some ([0 ≤ h, h ≤ m, m ≤ cap], .v (.one (.sc id o h.toNat m.toNat true)), [])
        | none, some _ => none)
      else bif Nat.beq o 0 && Nat.blt id S.E.length then
        match h, m with
        | none, none => some ([0 ≤ l.getD 0, (l.getD 0).toNat ≤ len, len ≤ cap], .v (.one (.sc S.E.length 0 (len - (l.getD 0).toNat) (cap - (l.getD 0).toNat) false)), [(.ad (slA (bas S.E id 0) (l.getD 0).toNat cap s), ⟨S.E.length, id, (l.getD 0).toNat, cap, len - (l.getD 0).toNat, s⟩)])
        | some h, none => some ([0 ≤ l.getD 0, l.getD 0 ≤ h, h ≤ cap], .v (.one (.sc S.E.length 0 (h.toNat - (l.getD 0).toNat) (cap - (l.getD 0).toNat) false)), [(.ad (slA (bas S.E id 0) (l.getD 0).toNat cap s), ⟨S.E.length, id, (l.getD 0).toNat, cap, h.toNat - (l.getD 0).toNat, s⟩)])
        | some h, some m => some ([0 ≤ l.getD 0, l.getD 0 ≤ h, h ≤ m, m ≤ cap], .v (.one (.sc S.E.length 0 (h.toNat - (l.getD 0).toNat) (m.toNat - (l.getD 0).toNat) false)), [(.ad (slA (bas S.E id 0) (l.getD 0).toNat m.toNat s), ⟨S.E.length, id, (l.getD 0).toNat, m.toNat, h.toNat - (l.getD 0).toNat, s⟩)])
        | none, some _ => none
      else none
    | some (.slice e), some (.v (.one (.xv (.slice none 0 0)))) => (sizeB X.P e).map fun _ => ([l.getD 0 = 0, h.getD 0 = 0, m.getD 0 = 0], one (.slice none 0 0), [])
    | _, _ => none
  | _, _, _ => none

def stepQ (X : Cx) (S : SS FM) (o : Oper) : QR FM :=
  match o.op with
  | .move x => (evS X S (some o.type) x).map fun v => ([], v, [])
  | .assign x => (evS X S (some o.type) x).map fun v => ([], v, [])
  | .nilCheck x => match evS X S none x with
    | some (.v (.one (.pt a b))) => some ([], .v (.one (.pt a b)), [])
    | some (.v (.one (.qt a b c d e))) => some ([], .v (.one (.qt a b c d e)), [])
    | some (.fn f a b) => some ([], .fn f a b, [])
    | _ => dflt X S o
  | .extract t ix => match evS X S none t with
    | some (.tup l) => (l[ix]?).map fun v => ([], .v v, [])
    | _ => none
  | .load ty a => match evS X S none a with
    | some (.v (.one a)) => (loadS X.P S ty a).map fun (φs, v) => (φs, .v v, [])
    | _ => none
  | .indexAddr t x ix => qIx X S t x ix
  | .index t x ix => match qIv X S t x ix with
    | some r => some r
    | none => match evS X S none ix, X.P.underlying t, evS X S (some t) x with
      | some (.v (.one (.xv (.int _ n)))), some .string, some (.v (.one (.st l))) => some ([0 ≤ n, n.toNat < l.length, byt l], one (.int .u8 (l.getD n.toNat 0)), [])
      | _, _, _ => none
  | .fieldAddr t x f => qFa X S t x f
  | .field t x f => qFd X S t x f
  | .build t parts => qBu X S t parts
  | .makeFunc (.func f) a b => match evList X S a.toList, evList X S b.toList with
    | some a, some b => some ([], .fn f a b, [])
    | _, _ => none
  | .slice t x lo hi mx => qSl X S t x lo hi mx
  | .binOp op t x y _ => match qBin X S op t x y with
    | some r => some r
    | none => match qStr X S op t x y with
      | some r => some r
      | none => dflt X S o
  | .call { callee := .builtin .len, args := ⟨[x]⟩, argTypes := ⟨[t]⟩ } => match X.P.underlying t, evS X S (some t) x with
    | some .string, some (.v (.one (.st l))) => some ([], one (.int .i64 (l.length : Nat)), [])
    | _, _ => dflt X S o
  | .convert src dst x => match evS X S none x, X.P.underlying src, X.P.underlying dst with
    | some (.v (.one (.xv (.int _ n)))), some (.int _), some (.int k) => bif memK k X.nw then some ([k.min ≤ n, n ≤ k.max], one (.int k n), []) else some ([], one (.int k (k.wrap n)), [])
    | _, _, _ => dflt X S o
  | .unOp op _ x => match op, evS X S none x with
    | .not, some (.v (.one (.kb b))) => some ([], .v (.one (.kb (!b))), [])
    | .neg, some (.v (.one (.xv (.int k n)))) => bif memK k X.nw then some ([k.min ≤ 0 - n, 0 - n ≤ k.max], one (.int k (0 - n)), []) else some ([], one (.int k (k.wrap (0 - n))), [])
    | .xor, some (.v (.one (.xv (.int k n)))) => some ([], one (.int k (bxr k (if k.signed then -1 else k.max) n)), [])
    | _, _ => dflt X S o
  | _ => dflt X S o
end
end Go.Px
end
section
/-
  That an operation yields what was computed. No condition.
-/
set_option linter.all false
namespace Go.Px
open Go.RowKit

section
variable {FM : Nat → Fm}

def isLd : Op → Bool
  | .load .. => true
  | _ => false

/-- What an operation that yields a value is shown to do. -/
structure QOk (X : Cx) (S : SS FM) (o : Oper) (a : Act) (w : World) (v : TV FM) (x : List (Ad × Vw)) : Prop where
  run : (execOp a.eval o).run X.P w = .ok (.value (v.den (S.E ++ x.map (·.1)))) w
  wf : v.wf
  lt : v.lt (S.E.length + x.length) = true
  vw : vwf (S.E ++ x.map (·.1)) (x.map (·.2) ++ S.V)

theorem QOk.mk0 {X : Cx} {S : SS FM} (hS : S.WF) {o : Oper} {a : Act} {w : World} {v : TV FM} (h1 : (execOp a.eval o).run X.P w = .ok (.value (v.den S.E)) w) (h2 : v.wf) (h3 : v.lt S.E.length = true) : QOk X S o a w v [] :=
  ⟨by simpa using h1, h2, by simpa using h3, by simpa using hS.v⟩

variable {X : Cx} {S : SS FM} {o : Oper} {a : Act} {w : World} {N : FN} {v : TV FM} {φs : List Prop} {x : List (Ad × Vw)}

theorem evS_eval (hS : S.WF) (ha : Tm N S.Td a) {ty : Option TypeId} {y : Operand} {t : TV FM} (h : evS X S ty y = some t) : a.eval y = t.den S.E ∧ t.wf ∧ t.lt S.E.length = true := by
  obtain ⟨h1, h2, h3⟩ := evS_spec hS h
  exact ⟨evT_spec ha h1, h2, h3⟩

theorem dflt_ok (hS : S.WF) (ha : Tm N S.Td a) (h : dflt X S o = some (φs, v, x)) : QOk X S o a w v x := by
  unfold dflt at h
  split at h
  · rename_i u hu
    simp only [cond_eq_ite] at h
    split at h
    · simp only [Option.some.injEq, Prod.mk.injEq] at h
      obtain ⟨rfl, rfl, rfl⟩ := h
      exact QOk.mk0 hS (opNext_spec ha hu w) trivial rfl
    · cases h
  · cases h

theorem plc_add (E : List Ad) (id off k : Nat) : (plc E id off).add k = plc E id (off + k) := by
  rw [plc_adr, plc_adr, adr_add]

theorem bas_zero {E : List Ad} {id k : Nat} : adr (bas E id 0) k = plc E id k := (plc_adr E id k).symm
theorem bas_adr {E : List Ad} {id o k : Nat} (h : isbk E id = true) : adr (bas E id o) k = plc E id (o + k) := by
  rw [bas_bk h, adr_some, plc_adr, bas_bk h, adr_some, Nat.zero_add]

theorem ix_run {P : Program} {t : TypeId} {xv iv : Value} {n : Int} {k : IntKind} {A : Addr} {len e s c : Nat} (hiv : iv = .int k n)
    (hx : (P.underlying t = some (.array len e) ∧ xv = .pointer (some A)) ∨ (P.underlying t = some (.slice e) ∧ xv = .slice (some A) len c)) (hs : sizeB P e = some s) (h0 : 0 ≤ n) (h1 : n < len) (w : World) :
    (Instr.indexAt t xv iv).run P w = .ok (.pointer (some (A.add (n.toNat * s)))) w := by
  subst hiv
  rcases hx with ⟨hu, rfl⟩ | ⟨hu, rfl⟩
  · simp only [Instr.indexAt, Instr.sureAddr, asIntOf, Sem.run_bind, Sem.run_pure, Result.andThen_ok, run_underlying' hu, if_pos (And.intro h0 h1), pureRun_spec hs]
  · simp only [Instr.indexAt, asIntOf, Sem.run_bind, Sem.run_pure, Result.andThen_ok, run_underlying' hu, if_pos (And.intro h0 h1), pureRun_spec hs]

theorem qIx_ok (hS : S.WF) (ha : Tm N S.Td a) {M : Nat → Prop} {w0 w1 : World} (H : HS M w0 w1 S) {t : TypeId} {y ix : Operand} (ho : o.op = .indexAddr t y ix) (h : qIx X S t y ix = some (φs, v, x)) (hφ : All φs) : QOk X S o a w v x := by
  unfold qIx at h
  split at h
  · rename_i k n hix
    obtain ⟨hi, -, -⟩ := evS_eval hS ha hix
    have hrun : ∀ {A : Addr} {len e s c : Nat}, ((X.P.underlying t = some (.array len e) ∧ a.eval y = .pointer (some A)) ∨ (X.P.underlying t = some (.slice e) ∧ a.eval y = .slice (some A) len c)) → sizeB X.P e = some s → 0 ≤ n → n < len →
        (execOp a.eval o).run X.P w = .ok (.value (.pointer (some (A.add (n.toNat * s))))) w := by
      intro A len e s c hx hs h0 h1
      unfold execOp
      simp only [ho, Sem.run_bind, ix_run (P := X.P) (iv := a.eval ix) (k := k) (n := n) hi hx hs h0 h1 w, Result.andThen_ok, Sem.run_pure]
    split at h
    · rename_i len e id off hu hy
      obtain ⟨hyv, hyw, hyl⟩ := evS_eval hS ha hy
      obtain ⟨s, hs, h⟩ := Option.bind_eq_some_iff.1 h
      simp only [cond_eq_ite] at h
      split at h
      · split at h
        · rename_i hc
          have hc := of_decide_eq_true hc
          simp only [Option.some.injEq, Prod.mk.injEq] at h
          obtain ⟨rfl, rfl, rfl⟩ := h
          refine QOk.mk0 hS ?_ trivial hyl
          rw [hrun (c := 0) (.inl ⟨hu, hyv⟩) hs hc.1 hc.2, plc_add]; rfl
        · cases h
      · simp only [Option.some.injEq, Prod.mk.injEq] at h
        obtain ⟨rfl, rfl, rfl⟩ := h
        refine QOk.mk0 hS ?_ trivial hyl
        rw [hrun (c := 0) (.inl ⟨hu, hyv⟩) hs hφ.1 hφ.2.1, plc_add]; rfl
    · rename_i len e id o1 i1 st o2 hu hy
      obtain ⟨hyv, hyw, hyl⟩ := evS_eval hS ha hy
      obtain ⟨s, hs, h⟩ := Option.bind_eq_some_iff.1 h
      simp only [cond_eq_ite] at h
      split at h
      · split at h
        · rename_i hc
          have hc := of_decide_eq_true hc
          simp only [Option.some.injEq, Prod.mk.injEq] at h
          obtain ⟨rfl, rfl, rfl⟩ := h
          refine QOk.mk0 hS ?_ trivial hyl
          rw [hrun (c := 0) (.inl ⟨hu, hyv⟩) hs hc.1 hc.2, plc_add]
          simp only [TV.den, SV.den, S0.den, Nat.add_assoc]
        · cases h
      · cases h
    · rename_i e id o1 len cap tr0 hu hy
      obtain ⟨hyv, hyw, hyl⟩ := evS_eval hS ha hy
      have hyv' : a.eval y = .slice (bas S.E id o1) len cap := hyv
      obtain ⟨s, hs, h⟩ := Option.bind_eq_some_iff.1 h
      simp only [cond_eq_ite] at h
      split at h
      · rename_i hb
        rw [bas_bk hb] at hyv'
        have key : ∀ (h0 : 0 ≤ n) (h1 : n < len), (execOp a.eval o).run X.P w = .ok (.value (.pointer (some (plc S.E id (o1 + n.toNat * s))))) w := by
          intro h0 h1
          rw [hrun (.inr ⟨hu, hyv'⟩) hs h0 h1, ← bas_adr (o := o1) hb, bas_bk hb]
          simp [adr]
        split at h
        · simp only [Option.some.injEq, Prod.mk.injEq] at h
          obtain ⟨rfl, rfl, rfl⟩ := h
          exact QOk.mk0 hS (key hφ.1 hφ.2.1) trivial hyl
        · simp only [Option.some.injEq, Prod.mk.injEq] at h
          obtain ⟨rfl, rfl, rfl⟩ := h
          exact QOk.mk0 hS (key hφ.1 hφ.2.1) trivial hyl
      · split at h
        · rename_i ho0
          have ho1 := beq_n ho0
          obtain ⟨⟨c, φ'⟩, hc, h⟩ := Option.bind_eq_some_iff.1 h
          obtain ⟨m, hm, h⟩ := Option.bind_eq_some_iff.1 h
          split at h
          · rename_i hs1
            have hs1 := Nat.le_of_ble_eq_true hs1
            simp only [Option.some.injEq, Prod.mk.injEq] at h
            obtain ⟨rfl, rfl, rfl⟩ := h
            obtain ⟨h0, h1, h2, h3⟩ := hφ
            obtain ⟨q1, q2, q3⟩ := rdOf_spec hS H hc h3
            have hpos : 0 < (cden S.E c).length := by
              obtain ⟨⟨p, y', b⟩, g1, hm⟩ := Option.bind_eq_some_iff.1 hm
              obtain ⟨⟨e', m'⟩, g2, rfl⟩ := Option.map_eq_some_iff.1 hm
              obtain ⟨rfl, g3⟩ := catq_spec g1
              obtain ⟨-, -, -, -, g4⟩ := Sg.elem_spec (E := S.E) (N := 0) g2 (cwf_append.1 q2).2.1 h2
              have := Sg.len (E := S.E) (cwf_append.1 q2).2.1
              rw [cden_append]; simp only [cden, List.length_append]; omega
            obtain ⟨A0, hA0⟩ := Option.isSome_iff_exists.1 (q1.isSome hpos)
            subst ho1
            rw [hA0] at hyv'
            refine QOk.mk0 hS ?_ trivial hyl
            rw [hrun (.inr ⟨hu, hyv'⟩) hs h0 h1]
            simp only [TV.den, SV.den, S0.den, Nat.zero_add, Nat.add_zero, ← bas_zero, hA0]
            rfl
          · cases h
        · cases h
    · cases h
    · cases h
  · cases h

theorem qIv_ok (hS : S.WF) (ha : Tm N S.Td a) {t : TypeId} {y ix : Operand} (ho : o.op = .index t y ix) (h : qIv X S t y ix = some (φs, v, x)) (hφ : All φs) : QOk X S o a w v x := by
  unfold qIv at h
  split at h
  · rename_i k n len e c hix hu hy
    obtain ⟨hi, -, -⟩ := evS_eval hS ha hix
    obtain ⟨hyv, hyw, hyl⟩ := evS_eval hS ha hy
    obtain ⟨s, hs, h⟩ := Option.bind_eq_some_iff.1 h
    have hyw : cwf c := hyw
    have hyl : cok S.E.length c = true := hyl
    have key : ∀ {u : SV FM} (h0 : 0 ≤ n) (h1 : n < len), ((aggB X.P e = some false ∧ (cden S.E c)[n.toNat * s]? = some (u.den S.E)) ∨ (∃ n', aggB X.P e = some true ∧ sizeB X.P e = some n' ∧ n.toNat * s + n' ≤ (cden S.E c).length ∧ u.den S.E = .agg (((cden S.E c).drop (n.toNat * s)).take n').toArray)) →
        (execOp a.eval o).run X.P w = .ok (.value (u.den S.E)) w := by
      intro u h0 h1 hv
      unfold execOp
      simp only [ho, hi, hyv, TV.den, SV.den, S0.den, Instr.index, asIntOf, Sem.run_bind, Sem.run_pure, Result.andThen_ok, run_underlying' hu, if_pos (And.intro h0 h1), pureRun_spec hs, part_run hv]
    simp only [cond_eq_ite] at h
    split at h
    · split at h
      · rename_i hc
        have hc := of_decide_eq_true hc
        obtain ⟨u, hu', h⟩ := Option.map_eq_some_iff.1 h
        simp only [Prod.mk.injEq] at h
        obtain ⟨rfl, rfl, rfl⟩ := h
        obtain ⟨g1, g2, g3⟩ := ldS_spec (E := S.E) (N := S.E.length) (cs := cden S.E c) (off := n.toNat * s) hu' fun n' r hr => by
          obtain ⟨p1, p2, p3, p4, p5⟩ := csub_spec (E := S.E) hr hyw hyl
          exact ⟨p1, p2, p3, p4, by rw [clen hyw]; exact p5⟩
        exact QOk.mk0 hS (key hc.1 hc.2 g3) g1 g2
      · cases h
    · obtain ⟨m, hm, h⟩ := Option.bind_eq_some_iff.1 h
      obtain ⟨u, hu', h⟩ := Option.map_eq_some_iff.1 h
      simp only [Prod.mk.injEq] at h
      obtain ⟨rfl, rfl, rfl⟩ := h
      obtain ⟨g1, g2, g3⟩ := ldS_spec (E := S.E) (N := S.E.length) (cs := cden S.E c) (off := n.toNat * s) hu' fun n' r hr => by
        obtain ⟨⟨r', m'⟩, hr', rfl⟩ := Option.map_eq_some_iff.1 hr
        have := cdynm_of hr' hm; subst this
        obtain ⟨p1, p2, p3, p4, p5⟩ := cdyn_spec (E := S.E) (N := S.E.length) hr' hyw hφ.2.2.1
        simp only [Nat.zero_add, Nat.add_zero] at p1 p5
        exact ⟨by rw [up0_den]; exact p1, up0_wf p2, up0_ok p3, by rw [up0_n]; exact p4, p5⟩
      exact QOk.mk0 hS (key hφ.1 hφ.2.1 g3) g1 g2
  · cases h

theorem fieldAt_run {P : Program} {t f s : Nat} {fs : Array Field} {fd : Field} {A : Addr} (hu : P.underlying t = some (.struct fs)) (hf : fs[f]? = some fd) (hs : sizeB P fd.type = some s) (h1 : 1 ≤ s) (w : World) :
    (Instr.fieldAt t (.pointer (some A)) f).run P w = .ok (.pointer (some (A.add fd.offset))) w := by
  unfold Instr.fieldAt fieldPlace
  simp only [Sem.run_bind, run_underlying' hu, Result.andThen_ok, hf, Instr.sureAddr, Sem.run_pure, pureRun_spec hs]
  rw [if_neg (by omega)]
  simp

theorem qFa_ok (hS : S.WF) (ha : Tm N S.Td a) {t f : Nat} {y : Operand} (ho : o.op = .fieldAddr t y f) (h : qFa X S t y f = some (φs, v, x)) : QOk X S o a w v x := by
  unfold qFa at h
  split at h
  · rename_i fs id off hu hy
    obtain ⟨hyv, hyw, hyl⟩ := evS_eval hS ha hy
    split at h
    · rename_i fd hf
      obtain ⟨s, hs, h⟩ := Option.bind_eq_some_iff.1 h
      simp only [cond_eq_ite] at h
      split at h
      · rename_i h1
        simp only [Option.some.injEq, Prod.mk.injEq] at h
        obtain ⟨rfl, rfl, rfl⟩ := h
        refine QOk.mk0 hS ?_ trivial hyl
        unfold execOp
        simp only [ho, hyv, TV.den, SV.den, S0.den, Sem.run_bind, fieldAt_run hu hf hs (Nat.le_of_ble_eq_true h1), Result.andThen_ok, Sem.run_pure, plc_add]
      · cases h
    · cases h
  · rename_i fs id o1 i1 st o2 hu hy
    obtain ⟨hyv, hyw, hyl⟩ := evS_eval hS ha hy
    split at h
    · rename_i fd hf
      obtain ⟨s, hs, h⟩ := Option.bind_eq_some_iff.1 h
      simp only [cond_eq_ite] at h
      split at h
      · rename_i h1
        simp only [Option.some.injEq, Prod.mk.injEq] at h
        obtain ⟨rfl, rfl, rfl⟩ := h
        refine QOk.mk0 hS ?_ trivial hyl
        unfold execOp
        simp only [ho, hyv, TV.den, SV.den, S0.den, Sem.run_bind, fieldAt_run hu hf hs (Nat.le_of_ble_eq_true h1), Result.andThen_ok, Sem.run_pure, plc_add, Nat.add_assoc]
      · cases h
    · cases h
  · cases h

theorem qFd_ok (hS : S.WF) (ha : Tm N S.Td a) {t f : Nat} {y : Operand} (ho : o.op = .field t y f) (h : qFd X S t y f = some (φs, v, x)) : QOk X S o a w v x := by
  unfold qFd at h
  split at h
  · rename_i fs c hu hy
    obtain ⟨hyv, hyw, hyl⟩ := evS_eval hS ha hy
    have hyw : cwf c := hyw
    have hyl : cok S.E.length c = true := hyl
    split at h
    · rename_i fd hf
      obtain ⟨u, hu', h⟩ := Option.map_eq_some_iff.1 h
      simp only [Prod.mk.injEq] at h
      obtain ⟨rfl, rfl, rfl⟩ := h
      obtain ⟨g1, g2, g3⟩ := ldS_spec (E := S.E) (N := S.E.length) (cs := cden S.E c) (off := fd.offset) hu' fun n' r hr => by
        obtain ⟨p1, p2, p3, p4, p5⟩ := csub_spec (E := S.E) hr hyw hyl
        exact ⟨p1, p2, p3, p4, by rw [clen hyw]; exact p5⟩
      refine QOk.mk0 hS ?_ g1 g2
      unfold execOp
      simp only [ho, hyv, TV.den, SV.den, Instr.field, asAgg, Sem.run_bind, Sem.run_pure, Result.andThen_ok, run_underlying' hu, hf, part_run g3]
    · cases h
  · cases h

theorem evParts_spec (hS : S.WF) (ha : Tm N S.Td a) : ∀ {ps : List (Nat × Operand)} {l : List (Nat × SV FM)}, evParts X S ps = some l → ps.map (fun (i, y) => (i, a.eval y)) = sps S.E l ∧ spwf l
  | [], l, h => by simp [evParts] at h; subst h; exact ⟨rfl, trivial⟩
  | (i, y) :: r, l, h => by
    simp only [evParts] at h
    split at h
    · rename_i u l' hu hl
      simp only [Option.some.injEq] at h; subst h
      obtain ⟨hyv, hyw, hyl⟩ := evS_eval hS ha hu
      obtain ⟨g1, g2⟩ := evParts_spec hS ha hl
      exact ⟨by simp only [List.map_cons, sps, g1, hyv]; rfl, hyw, g2⟩
    · cases h

theorem qBu_ok (hS : S.WF) (ha : Tm N S.Td a) {t : Nat} {ps : Array (Nat × Operand)} (ho : o.op = .build t ps) (h : qBu X S t ps = some (φs, v, x)) : QOk X S o a w v x := by
  unfold qBu at h
  split at h
  · rename_i d z l hu hz hl
    obtain ⟨s, hs, h⟩ := Option.bind_eq_some_iff.1 h
    obtain ⟨c, hc, h⟩ := Option.bind_eq_some_iff.1 h
    obtain ⟨pl, hpl, h⟩ := Option.bind_eq_some_iff.1 h
    obtain ⟨r, hr, h⟩ := Option.map_eq_some_iff.1 h
    simp only [Prod.mk.injEq] at h
    obtain ⟨rfl, rfl, rfl⟩ := h
    obtain ⟨q1, q2, q3⟩ := rgA_spec (E := S.E) (N := S.E.length) hc
    obtain ⟨e1, e2⟩ := evParts_spec hS ha hl
    obtain ⟨g1, g2, g3, g4⟩ := bfill_spec (E := S.E) hr q2 q3 e2
    refine QOk.mk0 hS ?_ g2 g3
    have hf : Instr.fill pl z.cells (ps.map fun (i, y) => (i, a.eval y)).toList = some (cden S.E r).toArray := by
      rw [Array.toList_map, e1, ← g1, ← q1]
    unfold execOp
    simp only [ho, Sem.run_bind, build_run hu hz hpl hf, Result.andThen_ok, Sem.run_pure]
    rfl
  · cases h

theorem evList_spec (hS : S.WF) (ha : Tm N S.Td a) : ∀ {ps : List Operand} {l : List (SV FM)}, evList X S ps = some l → ps.map a.eval = l.map (SV.den S.E) ∧ svwf l ∧ svlt S.E.length l = true
  | [], l, h => by simp [evList] at h; subst h; exact ⟨rfl, trivial, rfl⟩
  | y :: r, l, h => by
    simp only [evList] at h
    split at h
    · rename_i u l' hu hl
      simp only [Option.some.injEq] at h; subst h
      obtain ⟨hyv, hyw, hyl⟩ := evS_eval hS ha hu
      obtain ⟨g1, g2, g3⟩ := evList_spec hS ha hl
      exact ⟨by simp only [List.map_cons, g1, hyv]; rfl, ⟨hyw, g2⟩, by simp only [svlt, Bool.and_eq_true]; exact ⟨hyl, g3⟩⟩
    · cases h

theorem eqA_run {P : Program} {t : TypeId} {u u' : List Value} {ks : List CK} {c : Bool} {n : Nat} (hn : n ≤ 10000) (hk : eqK P n t = some ks) (hg : aggB P t = some true) (h1 : u.map kd = ks.map some) (h2 : u'.map kd = ks.map some) (hc : c = true ↔ u = u') (w : World) :
    (Op.equalIn 10000 t (.agg u.toArray) (.agg u'.toArray)).run P w = .ok c w := by
  have hE := EqV.flat (P := P) (n := n) (t := t) (by rw [hk, hg]) h1 h2 c hc
  have := hE (10000 - n) w
  rw [show 10000 - n + n = 10000 by omega] at this
  exact this

theorem qBin_ok (hS : S.WF) (ha : Tm N S.Td a) {op : BinOp} {t t' : Nat} {y z : Operand} (ho : o.op = .binOp op t y z t') (h : qBin X S op t y z = some (φs, v, x)) (hφ : All φs) : QOk X S o a w v x := by
  unfold qBin at h
  split at h
  · rename_i k n k' n' hy hz
    obtain ⟨hyv, -, -⟩ := evS_eval hS ha hy
    obtain ⟨hzv, -, -⟩ := evS_eval hS ha hz
    simp only [cond_eq_ite] at h
    split at h
    · rename_i hk
      obtain ⟨⟨φ', u⟩, hu, h⟩ := Option.map_eq_some_iff.1 h
      simp only [Prod.mk.injEq] at h
      obtain ⟨rfl, rfl, rfl⟩ := h
      refine QOk.mk0 hS ?_ trivial rfl
      have hk' : k = k' ∨ op = .shl ∨ op = .shr := by
        simp only [Bool.or_eq_true, decide_eq_true_eq] at hk
        rcases hk with h | h
        · exact .inl h
        · right; cases op <;> simp [isSh] at h ⊢
      have hr := ibin_run (P := X.P) (nw := X.nw) hu hφ (fun e => by simp only [Bool.and_eq_true, decide_eq_true_eq] at e; exact e.2) t y z hk' w
      unfold execOp
      simp only [ho, hyv, hzv, TV.den, SV.den, S0.den]
      simp only [Sem.run_bind] at hr ⊢
      rw [hr]
      rfl
    · cases h
  · rename_i c d hy hz
    obtain ⟨hyv, hyw, hyl⟩ := evS_eval hS ha hy
    obtain ⟨hzv, hzw, hzl⟩ := evS_eval hS ha hz
    have main : ∀ (op' : BinOp) (e : Bool), (op' = .eql ∨ op' = .neq) → op = op' → ∀ {ka kb : List CK} {q : Option Bool}, ckd c = some ka → ckd d = some kb → ceq c d = some q →
        (decide (ka = kb) && eqOk X.P t ka) = true →
        (e = (match op' with | .eql => bany q | _ => !bany q)) → QOk X S o a w (one (.bool e)) [] := by
      intro op' e hop hoe ka kb q hka hkb hq hc he
      simp only [eqOk, Bool.and_eq_true, decide_eq_true_eq, Bool.not_eq_true'] at hc
      obtain ⟨rfl, ⟨hg, hgu⟩, hk⟩ := hc
      have hg := isB_spec hg
      split at hk
      · rename_i ks hks
        have := of_decide_eq_true hk; subst this
        have hr := eqA_run (P := X.P) (n := 12) (by omega) hks hg (ckd_spec (E := S.E) hka hyw) (ckd_spec (E := S.E) hkb hzw) (ceq_spec (E := S.E) hq hyw hzw) w
        refine QOk.mk0 hS ?_ trivial rfl
        unfold execOp
        subst he hoe
        rcases hop with rfl | rfl
        · simp only [ho, hyv, hzv, TV.den, SV.den, S0.den, one]
          simp [eqGuard, program, Sem.run, hgu, binOp, Op.equal, Op.maxDepth, hr]
        · simp only [ho, hyv, hzv, TV.den, SV.den, S0.den, one]
          simp [eqGuard, program, Sem.run, hgu, binOp, Op.equal, Op.maxDepth, hr]
      · cases hk
    split at h
    · split at h
      · rename_i ka kb q hka hkb hq
        simp only [cond_eq_ite] at h
        split at h
        · rename_i hc
          simp only [Option.some.injEq, Prod.mk.injEq] at h
          obtain ⟨rfl, rfl, rfl⟩ := h
          exact main .eql _ (.inl rfl) rfl hka hkb hq hc rfl
        · cases h
      · cases h
    · split at h
      · rename_i ka kb q hka hkb hq
        simp only [cond_eq_ite] at h
        split at h
        · rename_i hc
          simp only [Option.some.injEq, Prod.mk.injEq] at h
          obtain ⟨rfl, rfl, rfl⟩ := h
          exact main .neq _ (.inr rfl) rfl hka hkb hq hc rfl
        · cases h
      · cases h
    · cases h
  · cases h
end
end Go.Px
end
section
/-
  Slices of slices and of arrays; every operation that yields a value. No condition.
-/
set_option linter.all false
namespace Go.Px
open Go.RowKit

section
variable {FM : Nat → Fm}
variable {X : Cx} {S : SS FM} {o : Oper} {a : Act} {w : World} {N : FN} {v : TV FM} {φs : List Prop} {x : List (Ad × Vw)}

theorem num_spec (hS : S.WF) (ha : Tm N S.Td a) {y : Option Operand} {r : Option Int} (h : num? X S y = some r) :
    (∀ v, y.map a.eval = some v → ∃ k n, v = .int k n ∧ r = some n) ∧ (y.map a.eval = none → r = none) := by
  cases y with
  | none => simp only [num?, Option.some.injEq] at h; subst h; simp
  | some y =>
    simp only [num?] at h
    split at h
    · rename_i k n hy
      simp only [Option.some.injEq] at h; subst h
      obtain ⟨hyv, -, -⟩ := evS_eval hS ha hy
      refine ⟨fun v hv => ?_, by simp⟩
      simp only [Option.map_some, Option.some.injEq] at hv
      subst hv
      exact ⟨k, n, hyv, rfl⟩
    · cases h

theorem sliceAt_run (hS : S.WF) (ha : Tm N S.Td a) {t e len cap s : Nat} {xv : Value} {A : Option Addr} {lo hi mx : Option Operand} {l h m : Option Int} (hl : num? X S lo = some l) (hh : num? X S hi = some h) (hm : num? X S mx = some m)
    (hmh : m.isSome = true → h.isSome = true)
    (hx : (X.P.underlying t = some (.array len e) ∧ cap = len ∧ ∃ A', A = some A' ∧ xv = .pointer (some A')) ∨ (X.P.underlying t = some (.slice e) ∧ xv = .slice A len cap)) (hs : sizeB X.P e = some s)
    (b0 : 0 ≤ l.getD 0) (b1 : l.getD 0 ≤ h.getD len) (b2 : h.getD len ≤ m.getD cap) (b3 : m.getD cap ≤ cap) (w : World) :
    (Instr.sliceAt t xv (lo.map a.eval) (hi.map a.eval) (mx.map a.eval)).run X.P w = .ok (.slice (slA A (l.getD 0).toNat (m.getD cap).toNat s) ((h.getD len).toNat - (l.getD 0).toNat) ((m.getD cap).toNat - (l.getD 0).toNat)) w := by
  have q1 := num_spec hS ha hl
  have q2 := num_spec hS ha hh
  have q3 := num_spec hS ha hm
  rcases hx with ⟨hu, rfl, A', rfl, rfl⟩ | ⟨hu, rfl⟩
  · have hb := run_sliceBounds (P := X.P) (isS := false) (len := cap) (cap := cap) q1.1 q1.2 q2.1 q2.2 q3.1 q3.2 hmh b0 b1 b2 b3 w
    simp only [Instr.sliceAt, Instr.sureAddr, Sem.run_bind, Sem.run_pure, Result.andThen_ok, run_underlying' hu, hb, pureRun_spec hs]
    unfold slA
    split <;> rfl
  · have hb := run_sliceBounds (P := X.P) (isS := true) (len := len) (cap := cap) q1.1 q1.2 q2.1 q2.2 q3.1 q3.2 hmh b0 b1 b2 b3 w
    simp only [Instr.sliceAt, Instr.slice, Sem.run_bind, Sem.run_pure, Result.andThen_ok, run_underlying' hu, hb, pureRun_spec hs]
    rfl

theorem plc_bk {E : List Ad} {id off : Nat} (h : isbk E id = true) : plc E id off = ⟨bno E id, off, none⟩ := by
  rw [plc_adr, bas_bk h, adr_some, Nat.zero_add]

theorem bas_new {E : List Ad} {A : Option Addr} {o : Nat} : bas (E ++ [.ad A]) E.length o = A := by
  unfold bas; simp

theorem qSl_ok (hS : S.WF) (ha : Tm N S.Td a) {t : TypeId} {y : Operand} {lo hi mx : Option Operand} (ho : o.op = .slice t y lo hi mx) (h : qSl X S t y lo hi mx = some (φs, v, x)) (hφ : All φs) : QOk X S o a w v x := by
  unfold qSl at h
  split at h
  · rename_i l hh m hl' hh' hm'
    simp only [cond_eq_ite] at h
    split at h
    · cases h
    rename_i hmh
    have hmh : m.isSome = true → hh.isSome = true := by
      intro e
      cases hh with
      | none => simp [e] at hmh
      | some _ => rfl
    split at h
    · rename_i n e id off hu hy
      obtain ⟨hyv, hyw, hyl⟩ := evS_eval hS ha hy
      have hyv' : a.eval y = .pointer (some (plc S.E id off)) := hyv
      obtain ⟨s, hs, h⟩ := Option.bind_eq_some_iff.1 h
      split at h
      · rename_i hb
        have run_ := fun b0 b1 b2 b3 => sliceAt_run hS ha (w := w) (xv := a.eval y) (A := some (plc S.E id off)) hl' hh' hm' hmh (.inl ⟨hu, rfl, _, rfl, hyv'⟩) hs b0 b1 b2 b3
        split at h
        · split at h
          · rename_i hc
            obtain ⟨b0, b1, b2, b3, b4⟩ := of_decide_eq_true hc
            simp only [Option.some.injEq, Prod.mk.injEq] at h
            obtain ⟨rfl, rfl, rfl⟩ := h
            refine QOk.mk0 hS ?_ trivial hyl
            have hA : slA (some (plc S.E id off)) (l.getD 0).toNat (m.getD n).toNat s = bas S.E id (off + (l.getD 0).toNat * s) := by
              rw [bas_bk hb, plc_bk hb]
              rcases b4 with b4 | b4
              · rw [b4]; simp [slA_zero]
              · exact slA_some (by omega) rfl
            unfold execOp
            simp only [ho, Sem.run_bind, run_ b0 b1 b2 b3, Result.andThen_ok, Sem.run_pure, hA, TV.den, SV.den, S0.den]
            congr 4 <;> omega
          · cases h
        · split at h
          · rename_i hc
            simp only [Bool.and_eq_true, decide_eq_true_eq] at hc
            have h0 := hc.2
            simp only [Option.some.injEq, Prod.mk.injEq] at h
            obtain ⟨rfl, rfl, rfl⟩ := h
            obtain ⟨b1, b2, b3, -⟩ := hφ
            refine QOk.mk0 hS ?_ trivial hyl
            have hr := run_ (by omega) (by omega) b2 b3
            rw [h0] at hr
            have hA : slA (some (plc S.E id off)) (0 : Int).toNat (m.getD n).toNat s = bas S.E id off := by
              rw [bas_bk hb, plc_bk hb]; simp [slA_zero]
            rw [hA] at hr
            unfold execOp
            simp only [ho, Sem.run_bind, hr, Result.andThen_ok, Sem.run_pure, TV.den, SV.den, S0.den]
            simp
          · cases h
      · cases h
    · rename_i e id o1 len cap tr0 hu hy
      obtain ⟨hyv, hyw, hyl⟩ := evS_eval hS ha hy
      have hyv' : a.eval y = .slice (bas S.E id o1) len cap := hyv
      obtain ⟨s, hs, h⟩ := Option.bind_eq_some_iff.1 h
      have run_ := fun b0 b1 b2 b3 => sliceAt_run hS ha (w := w) (xv := a.eval y) (A := bas S.E id o1) hl' hh' hm' hmh (.inr ⟨hu, hyv'⟩) hs b0 b1 b2 b3
      split at h
      · rename_i hc
        simp only [Bool.and_eq_true, decide_eq_true_eq] at hc
        have h0 := hc.2
        have fin : ∀ {n' c' : Nat} {tr : Bool}, 0 ≤ hh.getD len → hh.getD len ≤ m.getD cap → m.getD cap ≤ cap → n' = (hh.getD len).toNat → c' = (m.getD cap).toNat → QOk X S o a w (.v (.one (.sc id o1 n' c' tr))) [] := by
          intro n' c' tr b1 b2 b3 e1 e2
          subst e1 e2
          refine QOk.mk0 hS ?_ trivial hyl
          have hr := run_ (by omega) (by omega) b2 b3
          rw [h0] at hr
          simp only [Int.toNat_zero, slA_zero, Nat.sub_zero] at hr
          unfold execOp
          simp only [ho, Sem.run_bind, hr, Result.andThen_ok, Sem.run_pure, TV.den, SV.den, S0.den]
        split at h
        · simp only [Option.some.injEq, Prod.mk.injEq] at h
          obtain ⟨rfl, rfl, rfl⟩ := h
          have := hφ.1
          exact fin (by simp) (by simp only [Option.getD_none]; omega) (by simp) (by simp) (by simp)
        · simp only [Option.some.injEq, Prod.mk.injEq] at h
          obtain ⟨rfl, rfl, rfl⟩ := h
          exact fin hφ.1 hφ.2.1 (by simp) rfl (by simp)
        · simp only [Option.some.injEq, Prod.mk.injEq] at h
          obtain ⟨rfl, rfl, rfl⟩ := h
          exact fin hφ.1 hφ.2.1 hφ.2.2.1 rfl rfl
        · cases h
      · split at h
        · rename_i hc
          simp only [Bool.and_eq_true] at hc
          have ho1 : o1 = 0 := beq_n hc.1
          have hid := hc.2
          rw [ho1] at run_
          have fin : ∀ {l0 n' c' mm : Nat}, 0 ≤ l.getD 0 → l.getD 0 ≤ hh.getD len → hh.getD len ≤ m.getD cap → m.getD cap ≤ cap → l0 = (l.getD 0).toNat → mm = (m.getD cap).toNat → n' = (hh.getD len).toNat - (l.getD 0).toNat → c' = (m.getD cap).toNat - (l.getD 0).toNat →
              QOk X S o a w (.v (.one (.sc S.E.length 0 n' c' false))) [(.ad (slA (bas S.E id 0) l0 mm s), ⟨S.E.length, id, l0, mm, n', s⟩)] := by
            intro l0 n' c' mm b0 b1 b2 b3 e0 e3 e1 e2
            subst e1 e2 e3 e0
            refine ⟨?_, trivial, ?_, ?_⟩
            · unfold execOp
              simp only [ho, Sem.run_bind, run_ b0 b1 b2 b3, Result.andThen_ok, Sem.run_pure, TV.den, SV.den, S0.den, List.map_cons, List.map_nil, bas_new]
            · exact Nat.blt_eq.mpr (by simp)
            · refine ⟨⟨?_, by simp only; omega, Nat.blt_eq.mpr (by simp), blt_mono hid (by simp)⟩, vwf_ext hS.v⟩
              simp only [List.map_cons, List.map_nil, bas_new, bas_ext hid]
          split at h
          · simp only [Option.some.injEq, Prod.mk.injEq] at h
            obtain ⟨rfl, rfl, rfl⟩ := h
            obtain ⟨b0, b1, b2, -⟩ := hφ
            exact fin b0 (by simp only [Option.getD_none]; omega) (by simp only [Option.getD_none]; omega) (by simp) rfl (by simp) (by simp) (by simp)
          · simp only [Option.some.injEq, Prod.mk.injEq] at h
            obtain ⟨rfl, rfl, rfl⟩ := h
            obtain ⟨b0, b1, b2, -⟩ := hφ
            exact fin b0 b1 b2 (by simp) rfl (by simp) rfl (by simp)
          · simp only [Option.some.injEq, Prod.mk.injEq] at h
            obtain ⟨rfl, rfl, rfl⟩ := h
            obtain ⟨b0, b1, b2, b3, -⟩ := hφ
            exact fin b0 b1 b2 b3 rfl rfl rfl rfl
          · cases h
        · cases h
    · rename_i e hu hy
      obtain ⟨hyv, hyw, hyl⟩ := evS_eval hS ha hy
      have hyv' : a.eval y = .slice none 0 0 := hyv
      obtain ⟨s, hs, h⟩ := Option.map_eq_some_iff.1 h
      simp only [Prod.mk.injEq] at h
      obtain ⟨rfl, rfl, rfl⟩ := h
      obtain ⟨b0, b1, b2, -⟩ := hφ
      have hr := sliceAt_run hS ha (w := w) (xv := a.eval y) (A := none) (len := 0) (cap := 0) hl' hh' hm' hmh (.inr ⟨hu, hyv'⟩) hs (by omega) (by rw [Int.natCast_zero, b0, b1]; omega) (by rw [Int.natCast_zero, b1, b2]; omega) (by rw [Int.natCast_zero, b2]; omega)
      refine QOk.mk0 hS ?_ trivial hyl
      rw [Int.natCast_zero, b0, b1, b2, Int.toNat_zero, slA_zero] at hr
      unfold execOp
      simp only [ho, Sem.run_bind, hr, Result.andThen_ok, Sem.run_pure, one, TV.den, SV.den, S0.den]
    · cases h
  · cases h

theorem snil_run {P : Program} {t e : TypeId} (hu : P.underlying t = some (.slice e)) (A : Option Addr) (n c : Nat) (w : World) : (Op.equal t (.slice A n c) (.slice none 0 0)).run P w = .ok A.isNone w := run_eq_nil hu A n c w

theorem mnil_run {P : Program} {t k e : TypeId} (hu : P.underlying t = some (.map k e)) (b : Nat) (w : World) : (Op.equal t (.map (some b)) (.map none)).run P w = .ok false w := by
  have key : ∀ d, (Op.equalIn (d + 1) t (.map (some b)) (.map none)).run P w = .ok false w := by
    intro d
    simp [Op.equalIn, run_underlying hu]
  exact key 9999
theorem pnil_run {P : Program} {t e : TypeId} (hu : P.underlying t = some (.pointer e)) (A : Option Addr) (w : World) : (Op.equal t (.pointer A) (.pointer none)).run P w = .ok A.isNone w := by
  have key : ∀ d, (Op.equalIn (d + 1) t (.pointer A) (.pointer none)).run P w = .ok A.isNone w := by
    intro d
    cases A <;> simp [Op.equalIn, run_underlying hu]
  exact key 9999

theorem qStr_ok (hS : S.WF) (ha : Tm N S.Td a) {op : BinOp} {t t' : Nat} {y z : Operand} (ho : o.op = .binOp op t y z t') (h : qStr X S op t y z = some (φs, v, x)) (hφ : All φs) : QOk X S o a w v x := by
  have seq : ∀ {a b : List Int}, byt a → byt b → ((strOfNums a).toList == (strOfNums b).toList) = decide (a = b) := by
    intro a b ha hb
    rw [toList_beq]
    by_cases e : a = b
    · subst e; simp
    · simp only [e, decide_false, decide_eq_false_iff_not]
      exact fun h => e (strOfNums_inj ha hb h)
  unfold qStr at h
  split at h
  · rename_i hy hz
    obtain ⟨hyv, -, -⟩ := evS_eval hS ha hy
    obtain ⟨hzv, -, -⟩ := evS_eval hS ha hz
    simp only [Option.some.injEq, Prod.mk.injEq] at h
    obtain ⟨rfl, rfl, rfl⟩ := h
    refine QOk.mk0 hS ?_ trivial rfl
    unfold execOp
    simp only [ho, hyv, hzv, TV.den, SV.den, S0.den, one]
    simp [eqGuard, Sem.run_bind, binOp, Op.stringOp, seq hφ.1 hφ.2.1]
  · rename_i hy hz
    obtain ⟨hyv, -, -⟩ := evS_eval hS ha hy
    obtain ⟨hzv, -, -⟩ := evS_eval hS ha hz
    simp only [Option.some.injEq, Prod.mk.injEq] at h
    obtain ⟨rfl, rfl, rfl⟩ := h
    refine QOk.mk0 hS ?_ trivial rfl
    have hne : ∀ u v : List UInt8, (u != v) = !(u == v) := fun u v => rfl
    unfold execOp
    simp only [ho, hyv, hzv, TV.den, SV.den, S0.den, one]
    simp [eqGuard, Sem.run_bind, binOp, Op.stringOp, hne, seq hφ.1 hφ.2.1]
  · rename_i p q hy hz
    obtain ⟨hyv, -, -⟩ := evS_eval hS ha hy
    obtain ⟨hzv, -, -⟩ := evS_eval hS ha hz
    simp only [Option.some.injEq, Prod.mk.injEq] at h
    obtain ⟨rfl, rfl, rfl⟩ := h
    refine QOk.mk0 hS ?_ trivial rfl
    have := run_string_add_sum (P := X.P) w (strOfNums p) (strOfNums q) (by rw [strOfNums_size, strOfNums_size]; exact hφ.1)
    unfold execOp
    simp only [ho, hyv, hzv, TV.den, SV.den, S0.den, binOp_string_add]
    simp [eqGuard, Sem.run_bind, this, strOfNums_append]
  · rename_i hy hz
    split at h
    · rename_i e hu
      obtain ⟨hyv, -, -⟩ := evS_eval hS ha hy
      obtain ⟨hzv, -, -⟩ := evS_eval hS ha hz
      simp only [Option.some.injEq, Prod.mk.injEq] at h
      obtain ⟨rfl, rfl, rfl⟩ := h
      have hrun : ∀ (A : Option Addr) (n c : Nat) (e : a.eval y = .slice A n c), (execOp a.eval o).run X.P w = .ok (.value (.bool A.isNone)) w := by
        intro A n c e
        unfold execOp
        simp only [ho, e, hzv, TV.den, SV.den, S0.den]
        simp [eqGuard, binOp, Sem.run_bind, snil_run hu]
      simp only [cond_eq_ite]
      split
      · rename_i hb
        refine QOk.mk0 hS ?_ trivial rfl
        rw [hrun _ _ _ hyv, bas_bk hb]; rfl
      · refine QOk.mk0 hS ?_ trivial rfl
        rw [hrun _ _ _ hyv]; rfl
    · cases h
  · rename_i hy hz
    split at h
    · rename_i e hu
      obtain ⟨hyv, -, -⟩ := evS_eval hS ha hy
      obtain ⟨hzv, -, -⟩ := evS_eval hS ha hz
      simp only [Option.some.injEq, Prod.mk.injEq] at h
      obtain ⟨rfl, rfl, rfl⟩ := h
      have hrun : ∀ (A : Option Addr) (n c : Nat) (e : a.eval y = .slice A n c), (execOp a.eval o).run X.P w = .ok (.value (.bool (!A.isNone))) w := by
        intro A n c e
        unfold execOp
        simp only [ho, e, hzv, TV.den, SV.den, S0.den]
        simp [eqGuard, binOp, Sem.run_bind, snil_run hu]
      simp only [cond_eq_ite]
      split
      · rename_i hb
        refine QOk.mk0 hS ?_ trivial rfl
        rw [hrun _ _ _ hyv, bas_bk hb]; rfl
      · refine QOk.mk0 hS ?_ trivial rfl
        rw [hrun _ _ _ hyv]; rfl
    · cases h
  · rename_i hy hz
    split at h
    · rename_i hu
      obtain ⟨hyv, -, -⟩ := evS_eval hS ha hy
      obtain ⟨hzv, -, -⟩ := evS_eval hS ha hz
      simp only [Option.some.injEq, Prod.mk.injEq] at h
      obtain ⟨rfl, rfl, rfl⟩ := h
      refine QOk.mk0 hS ?_ trivial rfl
      unfold execOp
      simp only [ho, hyv, hzv, TV.den, SV.den, S0.den]
      simp [eqGuard, binOp, Sem.run_bind, mnil_run hu]
    · cases h
  · rename_i hy hz
    split at h
    · rename_i hu
      obtain ⟨hyv, -, -⟩ := evS_eval hS ha hy
      obtain ⟨hzv, -, -⟩ := evS_eval hS ha hz
      simp only [Option.some.injEq, Prod.mk.injEq] at h
      obtain ⟨rfl, rfl, rfl⟩ := h
      refine QOk.mk0 hS ?_ trivial rfl
      unfold execOp
      simp only [ho, hyv, hzv, TV.den, SV.den, S0.den]
      simp [eqGuard, binOp, Sem.run_bind, pnil_run hu]
    · cases h
  · rename_i hy hz
    split at h
    · rename_i hu
      obtain ⟨hyv, -, -⟩ := evS_eval hS ha hy
      obtain ⟨hzv, -, -⟩ := evS_eval hS ha hz
      simp only [Option.some.injEq, Prod.mk.injEq] at h
      obtain ⟨rfl, rfl, rfl⟩ := h
      refine QOk.mk0 hS ?_ trivial rfl
      unfold execOp
      simp only [ho, hyv, hzv, TV.den, SV.den, S0.den]
      simp [eqGuard, binOp, Sem.run_bind, pnil_run hu]
    · cases h
  · rename_i hy hz
    split at h
    · rename_i hu
      obtain ⟨hyv, -, -⟩ := evS_eval hS ha hy
      obtain ⟨hzv, -, -⟩ := evS_eval hS ha hz
      simp only [Option.some.injEq, Prod.mk.injEq] at h
      obtain ⟨rfl, rfl, rfl⟩ := h
      refine QOk.mk0 hS ?_ trivial rfl
      unfold execOp
      simp only [ho, hyv, hzv, TV.den, SV.den, S0.den]
      simp [eqGuard, binOp, Sem.run_bind, mnil_run hu]
    · cases h
  · rename_i hy hz
    split at h
    · rename_i hu
      obtain ⟨hyv, -, -⟩ := evS_eval hS ha hy
      obtain ⟨hzv, -, -⟩ := evS_eval hS ha hz
      simp only [Option.some.injEq, Prod.mk.injEq] at h
      obtain ⟨rfl, rfl, rfl⟩ := h
      refine QOk.mk0 hS ?_ trivial rfl
      unfold execOp
      simp only [ho, hyv, hzv, TV.den, SV.den, S0.den]
      simp [eqGuard, binOp, Sem.run_bind, pnil_run hu]
    · cases h
  · rename_i hy hz
    split at h
    · rename_i hu
      obtain ⟨hyv, -, -⟩ := evS_eval hS ha hy
      obtain ⟨hzv, -, -⟩ := evS_eval hS ha hz
      simp only [Option.some.injEq, Prod.mk.injEq] at h
      obtain ⟨rfl, rfl, rfl⟩ := h
      refine QOk.mk0 hS ?_ trivial rfl
      unfold execOp
      simp only [ho, hyv, hzv, TV.den, SV.den, S0.den]
      simp [eqGuard, binOp, Sem.run_bind, pnil_run hu]
    · cases h
  · cases h

theorem stepQ_ok (hS : S.WF) (ha : Tm N S.Td a) {M : Nat → Prop} {w0 w1 : World} (H : HS M w0 w1 S) (h : stepQ X S o = some (φs, v, x)) (hφ : All φs) (hk : isLd o.op = true → KeepD no w1 w) : QOk X S o a w v x := by
  unfold stepQ at h
  split at h
  · rename_i y ho
    obtain ⟨u, hu, h⟩ := Option.map_eq_some_iff.1 h
    simp only [Prod.mk.injEq] at h
    obtain ⟨rfl, rfl, rfl⟩ := h
    obtain ⟨hyv, hyw, hyl⟩ := evS_eval hS ha hu
    refine QOk.mk0 hS ?_ hyw hyl
    unfold execOp; simp [ho, hyv]
  · rename_i y ho
    obtain ⟨u, hu, h⟩ := Option.map_eq_some_iff.1 h
    simp only [Prod.mk.injEq] at h
    obtain ⟨rfl, rfl, rfl⟩ := h
    obtain ⟨hyv, hyw, hyl⟩ := evS_eval hS ha hu
    refine QOk.mk0 hS ?_ hyw hyl
    unfold execOp; simp [ho, hyv]
  · rename_i y ho
    split at h
    · rename_i hu
      simp only [Option.some.injEq, Prod.mk.injEq] at h
      obtain ⟨rfl, rfl, rfl⟩ := h
      obtain ⟨hyv, hyw, hyl⟩ := evS_eval hS ha hu
      refine QOk.mk0 hS ?_ hyw hyl
      unfold execOp; simp [ho, hyv, TV.den, SV.den, S0.den]
    · rename_i hu
      simp only [Option.some.injEq, Prod.mk.injEq] at h
      obtain ⟨rfl, rfl, rfl⟩ := h
      obtain ⟨hyv, hyw, hyl⟩ := evS_eval hS ha hu
      refine QOk.mk0 hS ?_ hyw hyl
      unfold execOp; simp [ho, hyv, TV.den, SV.den, S0.den]
    · rename_i hu
      simp only [Option.some.injEq, Prod.mk.injEq] at h
      obtain ⟨rfl, rfl, rfl⟩ := h
      obtain ⟨hyv, hyw, hyl⟩ := evS_eval hS ha hu
      refine QOk.mk0 hS ?_ hyw hyl
      unfold execOp; simp [ho, hyv, TV.den]
    · exact dflt_ok hS ha h
  · rename_i y ix ho
    split at h
    · rename_i l hu
      obtain ⟨hyv, hyw, hyl⟩ := evS_eval hS ha hu
      obtain ⟨u, hu', h⟩ := Option.map_eq_some_iff.1 h
      simp only [Prod.mk.injEq] at h
      obtain ⟨rfl, rfl, rfl⟩ := h
      have key : ∀ {l : List (SV FM)} {ix : Nat}, l[ix]? = some u → svwf l → svlt S.E.length l = true → u.wf ∧ u.lt S.E.length = true := by
        intro l
        induction l with
        | nil => intro ix h; simp at h
        | cons b l ih =>
          intro ix h hw hl
          simp only [svlt, Bool.and_eq_true] at hl
          cases ix with
          | zero => simp only [List.getElem?_cons_zero, Option.some.injEq] at h; subst h; exact ⟨hw.1, hl.1⟩
          | succ ix => exact ih (by simpa using h) hw.2 hl.2
      obtain ⟨k1, k2⟩ := key hu' hyw hyl
      refine QOk.mk0 hS ?_ k1 k2
      unfold execOp
      have : (l.map (SV.den S.E)).toArray[ix]? = some (u.den S.E) := by simp [hu']
      simp only [ho, hyv, TV.den, Instr.extract, this, Sem.run_bind, Sem.run_pure, Result.andThen_ok]
    · cases h
  · rename_i ty y ho
    split at h
    · rename_i u hu
      obtain ⟨hyv, hyw, hyl⟩ := evS_eval hS ha hu
      obtain ⟨⟨φ', r⟩, hr, h⟩ := Option.map_eq_some_iff.1 h
      simp only [Prod.mk.injEq] at h
      obtain ⟨rfl, rfl, rfl⟩ := h
      obtain ⟨g1, g2, A, cs, off, g3, g4, g5⟩ := loadS_spec hS H hr hφ
      refine QOk.mk0 hS ?_ g1 g2
      have hyv : a.eval y = u.den S.E := hyv
      rw [g3] at hyv
      unfold execOp
      simp only [ho, hyv, Instr.loadAt, Instr.sureAddr, Sem.run_bind, Sem.run_pure, Result.andThen_ok, Ld.rd g4 ty off _ g5 w (hk (by rw [ho]; rfl))]
      rfl
    · cases h
  · rename_i ho; exact qIx_ok hS ha H ho h hφ
  · rename_i ho
    split at h
    · rename_i r hr
      simp only [Option.some.injEq] at h; subst h
      exact qIv_ok hS ha ho hr hφ
    · split at h
      · rename_i k n l hix hu hy
        obtain ⟨hi, -, -⟩ := evS_eval hS ha hix
        obtain ⟨hyv, -, -⟩ := evS_eval hS ha hy
        simp only [Option.some.injEq, Prod.mk.injEq] at h
        obtain ⟨rfl, rfl, rfl⟩ := h
        obtain ⟨h0, h1, h2, -⟩ := hφ
        refine QOk.mk0 hS ?_ trivial rfl
        have hmem : l.getD n.toNat 0 ∈ l := by rw [List.getD_eq_getElem?_getD, List.getElem?_eq_getElem h1]; exact List.getElem_mem h1
        obtain ⟨c, hc1, hc2⟩ := strOfNums_get h1 (h2 _ hmem)
        unfold execOp
        simp only [ho, hi, hyv, TV.den, SV.den, S0.den, Instr.index, asIntOf, Sem.run_bind, Sem.run_pure, Result.andThen_ok, run_underlying' hu, if_pos h0, hc1, one]
        rw [hc2]
      · cases h
  · rename_i ho; exact qFa_ok hS ha ho h
  · rename_i ho; exact qFd_ok hS ha ho h
  · rename_i ho; exact qBu_ok hS ha ho h
  · rename_i f b c ho
    split at h
    · rename_i b' c' hb hc
      simp only [Option.some.injEq, Prod.mk.injEq] at h
      obtain ⟨rfl, rfl, rfl⟩ := h
      obtain ⟨p1, p2, p3⟩ := evList_spec hS ha hb
      obtain ⟨q1, q2, q3⟩ := evList_spec hS ha hc
      refine QOk.mk0 hS ?_ ⟨p2, q2⟩ (by show (_ && _) = true; rw [p3, q3]; rfl)
      have e1 : b.map a.eval = (b'.map (SV.den S.E)).toArray := by rw [← p1, ← Array.toList_map]
      have e2 : c.map a.eval = (c'.map (SV.den S.E)).toArray := by rw [← q1, ← Array.toList_map]
      unfold execOp
      simp only [ho, e1, e2, Instr.makeFunc, Sem.run_bind, Sem.run_pure, Result.andThen_ok, TV.den]
    · cases h
  · rename_i ho; exact qSl_ok hS ha ho h hφ
  · rename_i op t y z t' ho
    split at h
    · rename_i r hr
      simp only [Option.some.injEq] at h; subst h
      exact qBin_ok hS ha ho hr hφ
    · split at h
      · rename_i r hr
        simp only [Option.some.injEq] at h; subst h
        exact qStr_ok hS ha ho hr hφ
      · exact dflt_ok hS ha h
  · rename_i y t ho
    split at h
    · rename_i l hu hy
      obtain ⟨hyv, -, -⟩ := evS_eval hS ha hy
      simp only [Option.some.injEq, Prod.mk.injEq] at h
      obtain ⟨rfl, rfl, rfl⟩ := h
      refine QOk.mk0 hS ?_ trivial rfl
      unfold execOp
      simp [ho, resolve, invoke, builtin, hyv, TV.den, SV.den, S0.den, Builtin.len_, run_underlying' hu, goInt, strOfNums_size, one]
    · exact dflt_ok hS ha h
  · rename_i src dst y ho
    split at h
    · rename_i k n k' k'' hu hs hd
      obtain ⟨hyv, hyw, hyl⟩ := evS_eval hS ha hu
      simp only [cond_eq_ite] at h
      have hr : (execOp a.eval o).run X.P w = .ok (.value (.int k'' (k''.wrap n))) w := by
        unfold execOp
        simp [ho, hyv, TV.den, SV.den, S0.den, convert, Sem.run_bind, run_underlying' hs, run_underlying' hd, Conv.intToInt]
      split at h
      · simp only [Option.some.injEq, Prod.mk.injEq] at h
        obtain ⟨rfl, rfl, rfl⟩ := h
        refine QOk.mk0 hS ?_ trivial rfl
        rw [hr, wrap_in hφ.1 hφ.2.1]; rfl
      · simp only [Option.some.injEq, Prod.mk.injEq] at h
        obtain ⟨rfl, rfl, rfl⟩ := h
        exact QOk.mk0 hS hr trivial rfl
    · exact dflt_ok hS ha h
  · rename_i op t y ho
    split at h
    · rename_i b hu
      obtain ⟨hyv, hyw, hyl⟩ := evS_eval hS ha hu
      simp only [Option.some.injEq, Prod.mk.injEq] at h
      obtain ⟨rfl, rfl, rfl⟩ := h
      refine QOk.mk0 hS ?_ trivial rfl
      unfold execOp
      simp only [ho, hyv, TV.den, SV.den, S0.den]
      simp [Op.unary, Sem.run_bind]
    · rename_i k n hu
      obtain ⟨hyv, hyw, hyl⟩ := evS_eval hS ha hu
      simp only [cond_eq_ite] at h
      have hr : (execOp a.eval o).run X.P w = .ok (.value (.int k (k.wrap (0 - n)))) w := by
        unfold execOp
        simp only [ho, hyv, TV.den, SV.den, S0.den]
        simp [Op.unary, Op.intArith, Sem.run_bind]
      split at h
      · simp only [Option.some.injEq, Prod.mk.injEq] at h
        obtain ⟨rfl, rfl, rfl⟩ := h
        refine QOk.mk0 hS ?_ trivial rfl
        rw [hr, wrap_in hφ.1 hφ.2.1]; rfl
      · simp only [Option.some.injEq, Prod.mk.injEq] at h
        obtain ⟨rfl, rfl, rfl⟩ := h
        exact QOk.mk0 hS hr trivial rfl
    · rename_i k n hu
      obtain ⟨hyv, hyw, hyl⟩ := evS_eval hS ha hu
      simp only [Option.some.injEq, Prod.mk.injEq] at h
      obtain ⟨rfl, rfl, rfl⟩ := h
      refine QOk.mk0 hS ?_ trivial rfl
      unfold execOp
      simp only [ho, hyv, TV.den, SV.den, S0.den]
      simp [Op.unary, Op.intBits, Sem.run_bind, bxr, one, SV.den, S0.den]
    · exact dflt_ok hS ha h
  · exact dflt_ok hS ha h
end
end Go.Px
end
section
/-
  States that are told in two ways: what must be equal for both to say the same. No condition.
-/
set_option linter.all false
namespace Go.Px
open Go.RowKit

section
variable {FM : Nat → Fm}

/-- Values of two places of addresses that agree below B. -/
def same (B id id' : Nat) : Bool := Nat.beq id id' && Nat.blt id B
def uBas (B : Nat) (E F : List Ad) (id id' : Nat) : List Prop := bif same B id id' then [] else [bas E id 0 = bas F id' 0]
def u0 (B : Nat) (E F : List Ad) : S0 → S0 → List Prop
  | .xv (.int k a), .xv (.int k' b) => bif decide (k = k') then [a = b] else [False]
  | .xv (.bool a), .xv (.bool b) => [a = b]
  | .xv (.bool a), .kb b => [a = b]
  | .kb a, .xv (.bool b) => [a = b]
  | .kb a, .kb b => [a = b]
  | .st a, .st b => [a = b]
  | .xv a, .xv b => [a = b]
  | .pt id o, .pt id' o' => bif Nat.beq o o' then uBas B E F id id' else [False]
  | .qt id o i s q, .qt id' o' i' s' q' => bif Nat.beq o o' && Nat.beq s s' && Nat.beq q q' then (i = i') :: uBas B E F id id' else [False]
  | .sc id o n c _, .sc id' o' n' c' _ => bif Nat.beq o o' then (bif same B id id' then [n = n', c = c'] else [bas E id o = bas F id' o', n = n', c = c']) else [bas E id o = bas F id' o', n = n', c = c']
  | a, b => [a.den E = b.den F]

def Agree (B : Nat) (E F : List Ad) : Prop := ∀ i, i < B → E[i]? = F[i]?
theorem Agree.bas {B : Nat} {E F : List Ad} (h : Agree B E F) {id o : Nat} (hi : id < B) : bas E id o = bas F id o := by unfold Go.Px.bas; rw [h id hi]
theorem Agree.plc {B : Nat} {E F : List Ad} (h : Agree B E F) {id o : Nat} (hi : id < B) : plc E id o = plc F id o := by unfold Go.Px.plc; rw [h id hi]
theorem same_spec {B id id' : Nat} (h : same B id id' = true) : id = id' ∧ id < B := by
  simp only [same, Bool.and_eq_true] at h
  exact ⟨beq_n h.1, Nat.blt_eq.mp h.2⟩
theorem uBas_spec {B : Nat} {E F : List Ad} (h : Agree B E F) {id id' : Nat} (hu : All (uBas B E F id id')) : bas E id 0 = bas F id' 0 := by
  unfold uBas at hu
  simp only [cond_eq_ite] at hu
  split at hu
  · rename_i hs
    obtain ⟨rfl, hl⟩ := same_spec hs
    exact h.bas hl
  · exact hu.1
theorem u0_spec {B : Nat} {E F : List Ad} (h : Agree B E F) {x y : S0} (hu : All (u0 B E F x y)) : x.den E = y.den F := by
  unfold u0 at hu
  split at hu
  · simp only [cond_eq_ite] at hu
    split at hu
    · rename_i hk
      have := of_decide_eq_true hk; subst this
      have := hu.1; subst this; rfl
    · exact hu.1.elim
  · have := hu.1; subst this; rfl
  · have := hu.1; subst this; rfl
  · have := hu.1; subst this; rfl
  · have := hu.1; subst this; rfl
  · have := hu.1; subst this; rfl
  · exact hu.1
  · simp only [cond_eq_ite] at hu
    split at hu
    · rename_i ho
      have := beq_n ho; subst this
      simp only [S0.den, plc_adr, uBas_spec h hu]
    · exact hu.1.elim
  · simp only [cond_eq_ite] at hu
    split at hu
    · rename_i ho
      simp only [Bool.and_eq_true] at ho
      have h1 := beq_n ho.1.1; have h2 := beq_n ho.1.2; have h3 := beq_n ho.2
      subst h1 h2 h3
      have h4 := hu.1; subst h4
      simp only [S0.den, plc_adr, uBas_spec h hu.2]
    · exact hu.1.elim
  · simp only [cond_eq_ite] at hu
    split at hu
    · rename_i ho
      have := beq_n ho; subst this
      split at hu
      · rename_i hs
        obtain ⟨rfl, hl⟩ := same_spec hs
        obtain ⟨rfl, rfl, -⟩ := hu
        simp only [S0.den, h.bas hl]
      · obtain ⟨h1, rfl, rfl, -⟩ := hu
        simp only [S0.den, h1]
    · obtain ⟨h1, rfl, rfl, -⟩ := hu
      simp only [S0.den, h1]
  · exact hu.1

def uC (B : Nat) (E F : List Ad) : Ce FM → Ce FM → List Prop
  | [], [] => []
  | .b (.cl x) :: c, .b (.cl y) :: d => u0 B E F x y ++ uC B E F c d
  | .b (.iz k l n) :: c, .b (.iz k' l' n') :: d => bif decide (k = k') then (l = l') :: (n = n') :: uC B E F c d else [False]
  | .f j l n :: c, .f j' l' n' :: d => if h : j = j' then (h ▸ l = l') :: (n = n') :: uC B E F c d else [False]
  | _, _ => [False]
theorem uC_spec {B : Nat} {E F : List Ad} (h : Agree B E F) : ∀ {c d : Ce FM}, All (uC B E F c d) → cden E c = cden F d ∧ (cwf c → cwf d) ∧ cn c = cn d
  | [], [], _ => ⟨rfl, id, rfl⟩
  | .b (.cl x) :: c, .b (.cl y) :: d, hu => by
    obtain ⟨h1, h2⟩ := All_append.1 hu
    obtain ⟨g1, g2, g3⟩ := uC_spec h h2
    exact ⟨by simp only [cden, Sg.den, Sg0.den, u0_spec h h1, g1], fun w => ⟨trivial, g2 w.2⟩, by simp only [cn, Sg.n, Sg0.n, g3]⟩
  | .b (.iz k l n) :: c, .b (.iz k' l' n') :: d, hu => by
    simp only [uC, cond_eq_ite] at hu
    split at hu
    · rename_i hk
      have := of_decide_eq_true hk; subst this
      obtain ⟨rfl, rfl, h2⟩ := hu
      obtain ⟨g1, g2, g3⟩ := uC_spec h h2
      exact ⟨by simp only [cden, g1]; rfl, fun w => ⟨w.1, g2 w.2⟩, by simp only [cn, g3]⟩
    · exact hu.1.elim
  | .f j l n :: c, .f j' l' n' :: d, hu => by
    simp only [uC] at hu
    split at hu
    · rename_i hj
      subst hj
      obtain ⟨h1, rfl, h2⟩ := hu
      simp only at h1
      subst h1
      obtain ⟨g1, g2, g3⟩ := uC_spec h h2
      exact ⟨by simp only [cden, g1]; rfl, fun w => ⟨w.1, g2 w.2⟩, by simp only [cn, g3]⟩
    · exact hu.1.elim
  | [], .b _ :: _, hu => hu.1.elim
  | [], .f .. :: _, hu => hu.1.elim
  | .b (.cl _) :: _, [], hu => hu.1.elim
  | .b (.iz ..) :: _, [], hu => hu.1.elim
  | .f .. :: _, [], hu => hu.1.elim
  | .b (.cl _) :: _, .b (.iz ..) :: _, hu => hu.1.elim
  | .b (.cl _) :: _, .f .. :: _, hu => hu.1.elim
  | .b (.iz ..) :: _, .b (.cl _) :: _, hu => hu.1.elim
  | .b (.iz ..) :: _, .f .. :: _, hu => hu.1.elim
  | .f .. :: _, .b _ :: _, hu => hu.1.elim

def uS (B : Nat) (E F : List Ad) : SV FM → SV FM → List Prop
  | .one x, .one y => u0 B E F x y
  | .ag c, .ag d => uC B E F c d
  | _, _ => [False]
theorem uS_spec {B : Nat} {E F : List Ad} (h : Agree B E F) {x y : SV FM} (hu : All (uS B E F x y)) : x.den E = y.den F ∧ (x.wf → y.wf) := by
  cases x <;> cases y
  · exact ⟨u0_spec h hu, id⟩
  · exact hu.1.elim
  · exact hu.1.elim
  · obtain ⟨g1, g2, -⟩ := uC_spec h hu
    exact ⟨by simp only [SV.den, g1], g2⟩
def uL (B : Nat) (E F : List Ad) : List (SV FM) → List (SV FM) → List Prop
  | [], [] => []
  | x :: l, y :: r => uS B E F x y ++ uL B E F l r
  | _, _ => [False]
theorem uL_spec {B : Nat} {E F : List Ad} (h : Agree B E F) : ∀ {l r : List (SV FM)}, All (uL B E F l r) → l.map (SV.den E) = r.map (SV.den F) ∧ (svwf l → svwf r)
  | [], [], _ => ⟨rfl, id⟩
  | x :: l, y :: r, hu => by
    obtain ⟨h1, h2⟩ := All_append.1 hu
    obtain ⟨g1, g2⟩ := uS_spec h h1
    obtain ⟨g3, g4⟩ := uL_spec h h2
    exact ⟨by simp only [List.map_cons, g1, g3], fun w => ⟨g2 w.1, g4 w.2⟩⟩
  | [], _ :: _, hu => hu.1.elim
  | _ :: _, [], hu => hu.1.elim
def uV (B : Nat) (E F : List Ad) : TV FM → TV FM → List Prop
  | .v x, .v y => uS B E F x y
  | .tup l, .tup r => uL B E F l r
  | .fn f a b, .fn g c d => bif Nat.beq f g then uL B E F a c ++ uL B E F b d else [False]
  | _, _ => [False]
theorem uV_spec {B : Nat} {E F : List Ad} (h : Agree B E F) {x y : TV FM} (hu : All (uV B E F x y)) : x.den E = y.den F ∧ (x.wf → y.wf) := by
  cases x <;> cases y
  · exact uS_spec h hu
  · exact hu.1.elim
  · exact hu.1.elim
  · exact hu.1.elim
  · obtain ⟨g1, g2⟩ := uL_spec h hu
    exact ⟨by simp only [TV.den, g1], g2⟩
  · exact hu.1.elim
  · exact hu.1.elim
  · exact hu.1.elim
  · rename_i f a b g c d
    simp only [uV, cond_eq_ite] at hu
    split at hu
    · rename_i hf
      have := beq_n hf; subst this
      obtain ⟨h1, h2⟩ := All_append.1 hu
      obtain ⟨g1, g2⟩ := uL_spec h h1
      obtain ⟨g3, g4⟩ := uL_spec h h2
      exact ⟨by simp only [TV.den, g1, g3], fun w => ⟨g2 w.1, g4 w.2⟩⟩
    · exact hu.1.elim

def lsq : LoopState → LoopState → Bool
  | .ready, .ready => true
  | .busy, .busy => true
  | .done, .done => true
  | .exhausted, .exhausted => true
  | _, _ => false
theorem lsq_spec {a b : LoopState} (h : lsq a b = true) : a = b := by cases a <;> cases b <;> first | rfl | cases h
theorem Agree.bno {B : Nat} {E F : List Ad} (h : Agree B E F) {id : Nat} (hi : id < B) : bno E id = bno F id := by unfold Go.Px.bno; rw [h id hi]
/-- Of rows of records, those of a form. -/
def dsJ (j : Nat) : List (Ce FM) → List (List (FM j).α)
  | [] => []
  | [.f j' l _] :: r => if h : j' = j then (h ▸ l) :: dsJ j r else dsJ j r
  | [] :: r => dsJ j r
  | (.b _ :: _) :: r => dsJ j r
  | (.f _ _ _ :: _ :: _) :: r => dsJ j r
/-- To be in one of these lists. -/
def memL {α : Type} (a : α) : List (List α) → Prop
  | [] => False
  | [l] => a ∈ l
  | l :: m :: r => a ∈ l ∨ memL a (m :: r)
theorem memL_iff {α : Type} {a : α} : ∀ {ls : List (List α)}, memL a ls ↔ ∃ l ∈ ls, a ∈ l
  | [] => by simp [memL]
  | [l] => by simp [memL]
  | l :: m :: r => by
    have := memL_iff (a := a) (ls := m :: r)
    simp only [memL, this]
    simp
theorem dsJ_spec {w : World} {j : Nat} : ∀ {ds : List (Ce FM)} {l : List (FM j).α}, l ∈ dsJ j ds → dsOk w ds → ∀ a ∈ l, fmRd (FM j) w a
  | [], l, h, _ => by simp [dsJ] at h
  | [.f j' l' _] :: r, l, h, hd => by
    simp only [dsJ] at h
    split at h
    · rename_i e
      subst e
      rcases List.mem_cons.1 h with rfl | h
      · exact hd.1.1
      · exact dsJ_spec h hd.2
    · exact dsJ_spec h hd.2
  | [] :: r, l, h, hd => dsJ_spec (by simpa only [dsJ] using h) hd.2
  | (.b _ :: _) :: r, l, h, hd => dsJ_spec (by simpa only [dsJ] using h) hd.2
  | (.f _ _ _ :: _ :: _) :: r, l, h, hd => dsJ_spec (by simpa only [dsJ] using h) hd.2
theorem memL_spec {w : World} {j : Nat} {ds : List (Ce FM)} {a : (FM j).α} (h : memL a (dsJ j ds)) (hd : dsOk w ds) : fmRd (FM j) w a := by
  obtain ⟨l, hl, ha⟩ := memL_iff.1 h
  exact dsJ_spec hl hd a ha
/-- What must hold that lists whose slices stand are others. -/
def dsSub (ds : List (Ce FM)) : List (Ce FM) → List Prop
  | [] => []
  | [.f j l _] :: r => (∀ a ∈ l, memL a (dsJ j ds)) :: dsSub ds r
  | _ :: _ => [False]
theorem dsSub_spec {w : World} {a : List (Ce FM)} (ha : dsOk w a) : ∀ {b : List (Ce FM)}, All (dsSub a b) → dsOk w b
  | [], _ => trivial
  | [.f j l _] :: r, h => ⟨⟨fun x hx => memL_spec (h.1 x hx) ha, trivial⟩, dsSub_spec ha h.2⟩
  | [] :: _, h => h.1.elim
  | (.b _ :: _) :: _, h => h.1.elim
  | (.f _ _ _ :: _ :: _) :: _, h => h.1.elim
/-- Pieces: a slice of the call's own may be told as one that is only read. -/
def uP (B : Nat) (E F : List Ad) : Pc FM → Pc FM → List Prop
  | .bk id c ty, .bk id' c' ty' => bif Nat.beq ty ty' && isbk E id && isbk F id' then uBas B E F id id' ++ uC B E F c c' else [False]
  | .sl id n q c e s, .sl id' n' q' c' e' s' => bif Nat.beq e e' && Nat.beq s s' then uBas B E F id id' ++ ((n = n') :: (q = q') :: uC B E F c c') else [False]
  | .sl id _ _ c _ _, .rd id' c' => uBas B E F id id' ++ uC B E F c c'
  | .bk id c _, .rd id' c' => bif isbk E id then uBas B E F id id' ++ uC B E F c c' else [False]
  | .rd id c, .rd id' c' => uBas B E F id id' ++ uC B E F c c'
  | .lp id r st pd, .lp id' r' st' pd' => bif same B id id' && lsq st st' && (pd.isNone && pd'.isNone) then [r = r'] else [False]
  | .mk id b, .mk id' b' => bif same B id id' && (b == b') then [] else [False]
  | .mp id n l, .mp id' n' l' => bif Nat.beq n n' && isbk E id && isbk F id' then uBas B E F id id' ++ [l = l'] else [False]
  | .fz _ ds, .fz rs' ds' => match rs' with
    | [] => dsSub ds ds'
    | _ => [False]
  | _, _ => [False]
theorem bno_of {E F : List Ad} {id id' : Nat} (h1 : isbk E id = true) (h2 : isbk F id' = true) (h : bas E id 0 = bas F id' 0) : bno E id = bno F id' := by
  rw [bas_bk h1, bas_bk h2] at h
  simpa using h
theorem uP_spec {B : Nat} {E F : List Ad} (h : Agree B E F) {p q : Pc FM} (hu : All (uP B E F p q)) : (∀ w G, (p.den E).on w G → (q.den F).on w G) ∧ (p.wf → q.wf) := by
  cases p <;> cases q
  case lp.lp id r st pd id' r' st' pd' =>
    simp only [uP, cond_eq_ite] at hu
    split at hu
    · rename_i hc
      simp only [Bool.and_eq_true, Option.isNone_iff_eq_none] at hc
      obtain ⟨⟨hc1, hc2⟩, rfl, rfl⟩ := hc
      obtain ⟨rfl, hl⟩ := same_spec hc1
      have := lsq_spec hc2; subst this
      obtain ⟨rfl, -⟩ := hu
      exact ⟨fun w G hG => by simp only [Pc.den, ← h.bno hl]; exact hG, fun h => h⟩
    · exact hu.1.elim
  case mk.mk id b id' b' =>
    simp only [uP, cond_eq_ite] at hu
    split at hu
    · rename_i hc
      simp only [Bool.and_eq_true, beq_iff_eq] at hc
      obtain ⟨rfl, hl⟩ := same_spec hc.1
      obtain ⟨-, rfl⟩ := hc
      exact ⟨fun w G hG => by simp only [Pc.den, ← h.bno hl]; exact hG, fun h => h⟩
    · exact hu.1.elim
  case mp.mp id n l id' n' l' =>
    simp only [uP, cond_eq_ite] at hu
    split at hu
    · rename_i hc
      simp only [Bool.and_eq_true] at hc
      have := beq_n hc.1.1; subst this
      obtain ⟨h1, h2⟩ := All_append.1 hu
      have h3 := bno_of hc.1.2 hc.2 (uBas_spec h h1)
      obtain ⟨rfl, -⟩ := h2
      exact ⟨fun w G hG => by simp only [Pc.den, ← h3]; exact hG, fun h => h⟩
    · exact hu.1.elim
  case fz.fz rs ds rs' ds' =>
    simp only [uP] at hu
    split at hu
    · exact ⟨fun w G hG w' hw' => ⟨trivial, dsSub_spec (hG w' hw').2 hu⟩, fun _ => trivial⟩
    · exact hu.1.elim
  case bk.bk id c ty id' c' ty' =>
    simp only [uP, cond_eq_ite] at hu
    split at hu
    · rename_i hc
      simp only [Bool.and_eq_true] at hc
      have := beq_n hc.1.1; subst this
      obtain ⟨h1, h2⟩ := All_append.1 hu
      obtain ⟨g1, g2, g3⟩ := uC_spec h h2
      refine ⟨fun w G hG => ?_, g2⟩
      simp only [Pc.den, ← g1, ← bno_of hc.1.2 hc.2 (uBas_spec h h1)]
      exact hG
    · exact hu.1.elim
  case sl.sl id n cap c e s id' n' cap' c' e' s' =>
    simp only [uP, cond_eq_ite] at hu
    split at hu
    · rename_i hc
      simp only [Bool.and_eq_true] at hc
      have h1 := beq_n hc.1; have h2 := beq_n hc.2
      subst h1 h2
      obtain ⟨h1, rfl, rfl, h2⟩ := All_append.1 hu
      obtain ⟨g1, g2, g3⟩ := uC_spec h h2
      refine ⟨fun w G hG => ?_, g2⟩
      simp only [Pc.den, ← g1, ← uBas_spec h h1]
      exact hG
    · exact hu.1.elim
  case sl.rd id n cap c e s id' c' =>
    obtain ⟨h1, h2⟩ := All_append.1 hu
    obtain ⟨g1, g2, g3⟩ := uC_spec h h2
    refine ⟨fun w G hG => ?_, g2⟩
    simp only [Pc.den, ← g1, ← uBas_spec h h1]
    simp only [Pc.den] at hG
    intro w' hw
    exact (Rd.own hG.1).agree fun a ha => hw _ (hG.2 a ha)
  case bk.rd id c ty id' c' =>
    simp only [uP, cond_eq_ite] at hu
    split at hu
    · rename_i hc
      obtain ⟨h1, h2⟩ := All_append.1 hu
      obtain ⟨g1, g2, g3⟩ := uC_spec h h2
      refine ⟨fun w G hG => ?_, g2⟩
      simp only [Pc.den, ← g1, ← uBas_spec h h1]
      simp only [Pc.den] at hG
      intro w' hw
      rw [bas_bk hc]
      refine .inr ⟨bno E id, 0, (cden E c).toArray, ty, (0, 0), rfl, (hw _ hG.2).trans hG.1, fun j hj => ?_⟩
      simp
    · exact hu.1.elim
  case rd.rd id c id' c' =>
    obtain ⟨h1, h2⟩ := All_append.1 hu
    obtain ⟨g1, g2, g3⟩ := uC_spec h h2
    refine ⟨fun w G hG => ?_, g2⟩
    simp only [Pc.den, ← g1, ← uBas_spec h h1]
    exact hG
  all_goals exact hu.1.elim

/-- Each piece is told as the other tells it. -/
inductive EI : Mem → Mem → Prop where
  | nil : EI [] []
  | cons {e e' : Ent} {m m' : Mem} : (∀ w G, e.on w G → e'.on w G) → EI m m' → EI (e :: m) (e' :: m')
theorem Sep.imp {w : World} : ∀ {m m' : Mem} {F : Nat → Prop}, Sep w m F → EI m m' → Sep w m' F
  | [], _, _, _, h => by cases h; trivial
  | _ :: _, _, _, ⟨G, h1, h2, h3⟩, h => by
    cases h with
    | cons ha hb => exact ⟨G, ha w G h1, h2, Sep.imp h3 hb⟩
theorem Hp.imp {M : Nat → Prop} {w0 w : World} {m m' : Mem} (H : Hp M w0 w m) (h : EI m m') : Hp M w0 w m' :=
  ⟨H.os, H.tape, H.output, H.size, H.old, H.sep.imp h⟩
/-- A piece of which a part is told, to be read. -/
def viewOn : List Vw → Nat → Option Vw
  | [], _ => none
  | v :: r, id => bif Nat.beq v.base id then some v else viewOn r id
def rdy (E : List Ad) : Pc FM → Bool
  | .bk id _ _ => isbk E id
  | .sl _ _ _ _ _ _ => true
  | .rd _ _ => true
  | .pr _ => false
  | .lp _ _ _ _ => false
  | .mk _ _ => false
  | .mp _ _ _ => false
  | .fz _ _ => false
def uQ (B : Nat) (E : List Ad) (V : List Vw) (F : List Ad) (p q : Pc FM) : List Prop := match q with
  | .rd id' c' => match p.id?.bind (viewOn V) with
    | some v => match vcut p.ce v.lo v.n v.sz with
      | some (r, k) => bif rdy E p then (v.lo + v.n ≤ k) :: (uBas B E F v.id id' ++ uC B E F r c') else [False]
      | none => [False]
    | none => uP B E F p q
  | _ => uP B E F p q
theorem viewOn_spec {E : List Ad} : ∀ {V : List Vw} {id : Nat} {v : Vw}, viewOn V id = some v → vwf E V → v.base = id ∧ bas E v.id 0 = slA (bas E v.base 0) v.lo v.mx v.sz ∧ v.lo + v.n ≤ v.mx
  | [], _, _, h, _ => by simp [viewOn] at h
  | u :: l, id, v, h, hw => by
    simp only [viewOn, cond_eq_ite] at h
    split at h
    · rename_i hc
      have := beq_n hc; subst this
      simp only [Option.some.injEq] at h; subst h
      exact ⟨rfl, hw.1.1, hw.1.2.1⟩
    · exact viewOn_spec h hw.2
theorem rdy_on {E : List Ad} {p : Pc FM} {id : Nat} (h : rdy E p = true) (hi : p.id? = some id) {w : World} {G : Nat → Prop} (hG : (p.den E).on w G) : ∀ w', (∀ k, G k → w'.heap[k]? = w.heap[k]?) → Rd w' (bas E id 0) (cden E p.ce) := by
  intro w' hw
  cases p with
  | bk id' c ty =>
    simp only [Pc.id?, Option.some.injEq] at hi; subst hi
    simp only [Pc.den] at hG
    rw [bas_bk h]
    refine .inr ⟨bno E id', 0, (cden E c).toArray, ty, (0, 0), rfl, (hw _ hG.2).trans hG.1, fun j hj => ?_⟩
    simp [Pc.ce]
  | sl id' n cap c e s =>
    simp only [Pc.id?, Option.some.injEq] at hi; subst hi
    simp only [Pc.den] at hG
    exact (Rd.own hG.1).agree fun a ha => hw _ (hG.2 a ha)
  | rd id' c =>
    simp only [Pc.id?, Option.some.injEq] at hi; subst hi
    exact hG w' hw
  | pr φ => simp [Pc.id?] at hi
  | lp id' r st pd => cases h
  | mk id' b => cases h
  | mp id' n l => cases h
  | fz rs ds => simp [Pc.id?] at hi
theorem uQ_spec {B : Nat} {E F : List Ad} {V : List Vw} (h : Agree B E F) (hV : vwf E V) {p q : Pc FM} (hw : p.wf) (hu : All (uQ B E V F p q)) : (∀ w G, (p.den E).on w G → (q.den F).on w G) ∧ q.wf := by
  unfold uQ at hu
  split at hu
  · rename_i id' c'
    split at hu
    · rename_i v hv
      obtain ⟨id, hi, hv⟩ := Option.bind_eq_some_iff.1 hv
      split at hu
      · rename_i r k hr
        simp only [cond_eq_ite] at hu
        split at hu
        · rename_i hy
          obtain ⟨hk, hu⟩ := hu
          obtain ⟨h1, h2⟩ := All_append.1 hu
          obtain ⟨b1, b2, b3⟩ := viewOn_spec hv hV
          have hpw : cwf p.ce := by cases p <;> first | exact hw | trivial
          obtain ⟨g1, g2, -⟩ := vcut_spec (E := E) (N := E.length) hr hpw hk
          obtain ⟨e1, e2, -⟩ := uC_spec h h2
          refine ⟨fun w G hG w' hw' => ?_, e2 g2⟩
          have hR := rdy_on hy hi hG w' hw'
          rw [← e1, ← uBas_spec h h1, b2, b1]
          refine hR.slA (k := v.n * v.sz) (by omega) g1 fun e => ?_
          have : v.n = 0 := by omega
          rw [this] at g1
          rw [← g1]; simp
        · exact hu.1.elim
      · exact hu.1.elim
    · obtain ⟨g1, g2⟩ := uP_spec h hu
      exact ⟨g1, g2 hw⟩
  · obtain ⟨g1, g2⟩ := uP_spec h hu
    exact ⟨g1, g2 hw⟩
def uN (B : Nat) (E : List Ad) (V : List Vw) (F : List Ad) : List (Pc FM) → List (Pc FM) → List Prop
  | [], [] => []
  | p :: m, q :: k => uQ B E V F p q ++ uN B E V F m k
  | _, _ => [False]
theorem uN_spec {B : Nat} {E F : List Ad} {V : List Vw} (h : Agree B E F) (hV : vwf E V) : ∀ {m k : List (Pc FM)}, mwf m → All (uN B E V F m k) → EI (mden E m) (mden F k) ∧ mwf k
  | [], [], _, _ => ⟨.nil, trivial⟩
  | p :: m, q :: k, hw, hu => by
    obtain ⟨h1, h2⟩ := All_append.1 hu
    obtain ⟨g1, g2⟩ := uQ_spec h hV hw.1 h1
    obtain ⟨g3, g4⟩ := uN_spec h hV hw.2 h2
    exact ⟨.cons g1 g3, g2, g4⟩
  | [], _ :: _, _, hu => hu.1.elim
  | _ :: _, [], _, hu => hu.1.elim

def nilC : Ce FM → List Prop
  | [.b (.iz _ l n)] => [l = [], n = 0]
  | [.f _ l n] => [l = [], n = 0]
  | [] => []
  | _ => [False]
theorem nilC_spec {E : List Ad} {c : Ce FM} (h : All (nilC c)) : cden E c = [] ∧ cwf c := by
  unfold nilC at h
  split at h
  · obtain ⟨rfl, rfl, -⟩ := h; exact ⟨rfl, rfl, trivial⟩
  · obtain ⟨rfl, rfl, -⟩ := h; exact ⟨rfl, ⟨rfl, by simp⟩, trivial⟩
  · exact ⟨rfl, trivial⟩
  · exact h.1.elim
def dsNil : List (Ce FM) → List Prop
  | [] => []
  | [.f _ l _] :: r => (l = []) :: dsNil r
  | _ => [False]
theorem dsNil_spec {w : World} : ∀ {d : List (Ce FM)}, All (dsNil d) → dsOk w d
  | [], _ => trivial
  | [.f _ l _] :: r, h => by
    obtain ⟨h1, h2⟩ := h
    subst h1
    exact ⟨⟨fun a ha => (by cases ha), trivial⟩, dsNil_spec h2⟩
  | [] :: _, h => h.1.elim
  | (.b _ :: _) :: _, h => h.1.elim
  | (.f _ _ _ :: _ :: _) :: _, h => h.1.elim
/-- Pieces that are not there yet: slices of nothing. -/
def uX (F : List Ad) : List (Pc FM) → List Prop
  | [] => []
  | .sl id n q c _ _ :: r => (bas F id 0 = none) :: (n = 0) :: (q = 0) :: (nilC c ++ uX F r)
  | .fz [] ds :: r => dsNil ds ++ uX F r
  | _ :: _ => [False]
theorem uX_spec {M : Nat → Prop} {w0 w : World} {F : List Ad} {m' : Mem} : ∀ {k : List (Pc FM)}, All (uX F k) → Hp M w0 w m' → Hp M w0 w (mden F k ++ m') ∧ mwf k
  | [], _, H => ⟨H, trivial⟩
  | .sl id n q c e s :: r, h, H => by
    obtain ⟨h1, h2, h3, h4⟩ := h
    obtain ⟨h4, h5⟩ := All_append.1 h4
    obtain ⟨g1, g2⟩ := uX_spec (k := r) h5 H
    obtain ⟨q1, q2⟩ := nilC_spec (E := F) h4
    refine ⟨?_, q2, g2⟩
    subst h2 h3
    refine g1.add0 (e := (Pc.sl id 0 0 c e s).den F) ?_
    simp only [Pc.den, h1, q1]
    exact ⟨World.ownsRow_nil w 0 e s, fun a ha => by cases ha⟩
  | .bk .. :: _, h, _ => h.1.elim
  | .rd .. :: _, h, _ => h.1.elim
  | .lp .. :: _, h, _ => h.1.elim
  | .mk .. :: _, h, _ => h.1.elim
  | .mp .. :: _, h, _ => h.1.elim
  | .fz [] ds :: r, h, H => by
    obtain ⟨h1, h2⟩ := All_append.1 h
    obtain ⟨g1, g2⟩ := uX_spec (k := r) h2 H
    exact ⟨g1.add0 (e := (Pc.fz [] ds).den F) (fun w' _ => ⟨trivial, dsNil_spec h1⟩), trivial, g2⟩
  | .fz (_ :: _) _ :: _, h, _ => h.1.elim

/-- What must hold that the entries of a table stand in another. -/
def uT (B : Nat) (E F : List Ad) (T : ST FM) : ST FM → List Prop
  | [] => []
  | (t, some v) :: r => (match lookS T t with
    | some u => uV B E F u v
    | none => [False]) ++ uT B E F T r
  | (_, none) :: r => uT B E F T r

def keyIn (t : Nat) : ST FM → Bool
  | [] => false
  | (s, _) :: r => Nat.beq s t || keyIn t r
def memN (t : Nat) : List Nat → Bool
  | [] => false
  | s :: r => Nat.beq s t || memN t r
def unk (ws : List Nat) : ST FM := ws.map fun t => (t, none)
/-- The entries of the first n are all of these. -/
def coverd (L : ST FM) (ws : List Nat) : Nat → ST FM → Bool
  | 0, _ => true
  | _, [] => true
  | n + 1, (t, _) :: r => (keyIn t L || memN t ws) && coverd L ws n r

theorem uT_spec {B : Nat} {E F : List Ad} (h : Agree B E F) {T : ST FM} (hw : stwf T) : ∀ {L : ST FM}, All (uT B E F T L) → stwf L ∧ ∀ t v, lookS L t = some v → ∃ u, lookS T t = some u ∧ u.den E = v.den F
  | [], _ => ⟨trivial, fun t v h => by simp [lookS] at h⟩
  | (t, some v) :: r, hu => by
    obtain ⟨h1, h2⟩ := All_append.1 hu
    obtain ⟨g1, g2⟩ := uT_spec h hw h2
    split at h1
    · rename_i u hl
      obtain ⟨q1, q2⟩ := uV_spec h h1
      refine ⟨⟨q2 (stwf_look hw hl), g1⟩, fun s v' hs => ?_⟩
      simp only [lookS, cond_eq_ite] at hs
      split at hs
      · rename_i e
        have := beq_n e; subst this
        simp only [Option.some.injEq] at hs; subst hs
        exact ⟨u, hl, q1⟩
      · exact g2 s v' hs
    · exact h1.1.elim
  | (t, none) :: r, hu => by
    obtain ⟨g1, g2⟩ := uT_spec (L := r) h hw hu
    refine ⟨⟨trivial, g1⟩, fun s v' hs => ?_⟩
    simp only [lookS, cond_eq_ite] at hs
    split at hs
    · cases hs
    · exact g2 s v' hs

theorem lookS_append_out : ∀ {A R : ST FM} {t : Nat}, keyIn t A = false → lookS (A ++ R) t = lookS R t
  | [], _, _, _ => rfl
  | (s, v) :: A, R, t, h => by
    simp only [keyIn, Bool.or_eq_false_iff] at h
    simp only [List.cons_append, lookS, h.1, cond_false]
    exact lookS_append_out h.2
theorem lookS_append_in : ∀ {A R : ST FM} {t : Nat}, keyIn t A = true → lookS (A ++ R) t = lookS A t
  | [], _, _, h => by simp [keyIn] at h
  | (s, v) :: A, R, t, h => by
    simp only [keyIn, Bool.or_eq_true] at h
    simp only [List.cons_append, lookS]
    cases e : Nat.beq s t
    · simp only [cond_false]
      exact lookS_append_in (by rcases h with h | h; · rw [e] at h; cases h
                                · exact h)
    · rfl
theorem lookS_unk : ∀ {ws : List Nat} {t : Nat}, lookS (unk (FM := FM) ws) t = none
  | [], _ => rfl
  | s :: ws, t => by
    simp only [unk, List.map_cons, lookS]
    cases Nat.beq s t
    · exact lookS_unk (ws := ws)
    · rfl
theorem keyIn_unk : ∀ {ws : List Nat} {t : Nat}, keyIn t (unk (FM := FM) ws) = memN t ws
  | [], _ => rfl
  | s :: ws, t => by
    have := keyIn_unk (ws := ws) (t := t)
    simp only [unk, List.map_cons, keyIn, memN] at this ⊢
    rw [this]
theorem coverd_spec {L : ST FM} {ws : List Nat} : ∀ {n : Nat} {A : ST FM}, coverd L ws n A = true → n = A.length → ∀ t, keyIn t L = false → memN t ws = false → keyIn t A = false
  | 0, A, _, hn, t, _, _ => by
    have : A = [] := List.length_eq_zero_iff.1 hn.symm
    subst this; rfl
  | n + 1, [], _, hn, _, _, _ => by simp at hn
  | n + 1, (s, v) :: r, h, hn, t, h1, h2 => by
    simp only [coverd, Bool.and_eq_true, Bool.or_eq_true] at h
    simp only [keyIn, Bool.or_eq_false_iff]
    refine ⟨?_, coverd_spec h.2 (by simpa using hn) t h1 h2⟩
    cases e : Nat.beq s t
    · rfl
    · have := beq_n e; subst this
      rcases h.1 with h | h
      · rw [h] at h1; cases h1
      · rw [h] at h2; cases h2
theorem coverd_take {L : ST FM} {ws : List Nat} : ∀ {n : Nat} {A R : ST FM}, n = A.length → coverd L ws n (A ++ R) = true → coverd L ws n A = true
  | 0, A, _, hn, _ => by
    have : A = [] := List.length_eq_zero_iff.1 hn.symm
    subst this; rfl
  | n + 1, [], _, hn, _ => by simp at hn
  | n + 1, (s, v) :: r, R, hn, h => by
    simp only [List.cons_append, coverd, Bool.and_eq_true] at h ⊢
    exact ⟨h.1, coverd_take (by simpa using hn) h.2⟩

/-- A frame that a state tells is told by the other, too. -/
theorem tm_head {N : FN} {B : Nat} {E F : List Ad} (h : Agree B E F) {T L T0 A : ST FM} {ws : List Nat} (hT : T = A ++ T0) (hw : stwf T) (hu : All (uT B E F T L)) (hc : coverd L ws A.length T = true)
    (h0 : tden E T0 = tden F T0) {a : Act} (ha : Tm N (tden E T) a) : Tm N (tden F (L ++ (unk ws ++ T0))) a := by
  refine ⟨ha.1, ha.2.1, fun t v ht => ha.2.2 t v ?_⟩
  obtain ⟨g1, g2⟩ := uT_spec h hw hu
  rw [lookS_den] at ht ⊢
  cases hk : keyIn t L with
  | true =>
    rw [lookS_append_in hk] at ht
    obtain ⟨u, hu', rfl⟩ := Option.map_eq_some_iff.1 ht
    obtain ⟨u', h1, h2⟩ := g2 t u hu'
    rw [h1, Option.map_some, h2]
  | false =>
    rw [lookS_append_out hk] at ht
    cases hk2 : memN t ws with
    | true =>
      rw [lookS_append_in (by rw [keyIn_unk]; exact hk2), lookS_unk] at ht
      cases ht
    | false =>
      rw [lookS_append_out (by rw [keyIn_unk]; exact hk2)] at ht
      subst hT
      have := coverd_spec (coverd_take rfl hc) rfl t hk hk2
      rw [lookS_append_out this, ← lookS_den, h0, lookS_den]
      exact ht
theorem stwf_append : ∀ {A R : ST FM}, stwf (A ++ R) ↔ stwf A ∧ stwf R
  | [], R => by simp [stwf]
  | (s, v) :: A, R => by simp [stwf, stwf_append (A := A), and_assoc]
theorem stlt_append {N : Nat} : ∀ {A R : ST FM}, stlt N (A ++ R) = true ↔ stlt N A = true ∧ stlt N R = true
  | [], R => by simp [stlt]
  | (s, v) :: A, R => by simp [stlt, stlt_append (A := A), and_assoc]
theorem stwf_unk : ∀ {ws : List Nat}, stwf (unk (FM := FM) ws)
  | [] => trivial
  | _ :: ws => ⟨trivial, stwf_unk (ws := ws)⟩
theorem stlt_unk {N : Nat} : ∀ {ws : List Nat}, stlt N (unk (FM := FM) ws) = true
  | [] => rfl
  | _ :: ws => by
    have := stlt_unk (N := N) (ws := ws)
    simp only [unk, List.map_cons, stlt, otlt, Bool.true_and] at this ⊢; exact this

section
variable {M : Nat → Prop} {w0 w : World}
/-- Pieces on blocks that stand apart. -/
theorem Sep.all {w : World} : ∀ {m : Mem} {Gs : Nat → Nat → Prop} {F : Nat → Prop}, (∀ (i : Nat) (e : Ent), m[i]? = some e → e.on w (Gs i)) → (∀ i k, Gs i k → F k) → (∀ i j k, Gs i k → Gs j k → i = j) → Sep w m F
  | [], _, _, _, _, _ => trivial
  | e :: m, Gs, F, h1, h2, h3 => ⟨Gs 0, h1 0 e rfl, h2 0, Sep.all (Gs := fun i => Gs (i + 1)) (fun i e he => h1 (i + 1) e (by simpa using he)) (fun i k hk => ⟨h2 (i + 1) k hk, fun h0 => by have := h3 _ _ k hk h0; omega⟩) (fun i j k hi hj => by have := h3 _ _ k hi hj; omega)⟩
/-- Two pieces that are only read are one. -/
theorem Hp.merge {m : Mem} (H : Hp M w0 w m) {i j : Nat} {φ ψ : World → Prop} (hi : m[i]? = some (.pr φ)) (hj : m[j]? = some (.pr ψ)) (hij : i ≠ j) : Hp M w0 w ((m.set i (.pr fun w => φ w ∧ ψ w)).set j (.pr fun _ => True)) := by
  obtain ⟨Gs, g1, g2, g3⟩ := H.sep.fam
  have li : i < m.length := (List.getElem?_eq_some_iff.1 hi).1
  have lj : j < m.length := (List.getElem?_eq_some_iff.1 hj).1
  refine ⟨H.os, H.tape, H.output, H.size, H.old, Sep.all (Gs := fun x k => if x = i then Gs i k ∨ Gs j k else if x = j then False else Gs x k) (fun x e he => ?_) (fun x k hk => ?_) (fun x y k hx hy => ?_)⟩
  · by_cases hxj : x = j
    · subst hxj
      rw [List.getElem?_set_self (by rw [List.length_set]; exact lj)] at he
      simp only [Option.some.injEq] at he; subst he
      exact fun _ _ => trivial
    · rw [List.getElem?_set_ne (Ne.symm hxj)] at he
      by_cases hxi : x = i
      · subst hxi
        rw [List.getElem?_set_self li] at he
        simp only [Option.some.injEq] at he; subst he
        intro w' hw'
        simp only [if_true] at hw'
        exact ⟨g1 x _ hi w' fun k hk => hw' k (.inl hk), g1 j _ hj w' fun k hk => hw' k (.inr hk)⟩
      · rw [List.getElem?_set_ne (Ne.symm hxi)] at he
        simp only [hxi, hxj, if_false]
        exact g1 x e he
  · split at hk
    · rcases hk with hk | hk <;> exact g2 _ k hk
    · split at hk
      · exact hk.elim
      · exact g2 x k hk
  · split at hx
    · split at hy
      · omega
      · split at hy
        · exact hy.elim
        · rcases hx with hx | hx
          · have := g3 _ _ k hx hy; omega
          · have := g3 _ _ k hx hy; omega
    · split at hx
      · exact hx.elim
      · split at hy
        · rcases hy with hy | hy
          · have := g3 _ _ k hx hy; omega
          · have := g3 _ _ k hx hy; omega
        · split at hy
          · exact hy.elim
          · exact g3 _ _ k hx hy
theorem dsOk_append {w : World} : ∀ {a b : List (Ce FM)}, dsOk w (a ++ b) ↔ dsOk w a ∧ dsOk w b
  | [], b => by simp [dsOk]
  | c :: a, b => by simp [dsOk, dsOk_append (a := a), and_assoc]
theorem ROk_app {E : List Ad} {w : World} : ∀ {a b : List (Nat × Ce FM)}, ROk E w (a ++ b) ↔ ROk E w a ∧ ROk E w b
  | [], b => by simp [ROk]
  | (i, c) :: a, b => by simp [ROk, ROk_app (a := a), and_assoc]
theorem mden_at {E : List Ad} : ∀ {m : List (Pc FM)} {k : Nat} {p : Pc FM}, m[k]? = some p → (mden E m)[k]? = some (p.den E)
  | [], _, _, h => by simp at h
  | q :: m, 0, p, h => by simp only [List.getElem?_cons_zero, Option.some.injEq] at h; subst h; rfl
  | q :: m, k + 1, p, h => by simpa [mden] using mden_at (m := m) (k := k) (by simpa using h)
/-- Cells without records. -/
def noF : Ce FM → Bool
  | [] => true
  | .b _ :: c => noF c
  | .f j _ _ :: c => bif (FM j).deep then false else noF c
theorem noF_spec {w : World} : ∀ {c : Ce FM}, noF c = true → dRd w c
  | [], _ => trivial
  | .b _ :: c, h => noF_spec (c := c) h
  | .f j l _ :: c, h => by
    simp only [noF, cond_eq_ite] at h
    split at h
    · cases h
    · rename_i hd
      exact ⟨fun a _ => fmRd.flat (by simpa using hd) w a, noF_spec h⟩
/-- A slice of the call's own that is no longer written. -/
def frzK (m : List (Pc FM)) (k : Nat) : Option (List (Pc FM)) := match m[k]? with
  | some (.sl id _ _ c _ _) => bif noF c then some (m.set k (.fz [(id, c)] [])) else none
  | _ => none
theorem frzK_spec {E : List Ad} {m m' : List (Pc FM)} {k : Nat} (h : frzK m k = some m') (H : Hp M w0 w (mden E m)) : Hp M w0 w (mden E m') := by
  unfold frzK at h
  split at h
  · rename_i id n q c e s hk
    simp only [cond_eq_ite] at h
    split at h
    · rename_i hc
      simp only [Option.some.injEq] at h; subst h
      have hk' := mden_at (E := E) hk
      rw [mden_set]
      exact H.conv hk' _ fun G hG w' hw => ⟨⟨⟨(Rd.own hG.1).agree fun a ha => hw _ (hG.2 a ha), noF_spec hc⟩, trivial⟩, trivial⟩
    · cases h
  · cases h
/-- Two pieces that are no longer written are one. -/
def mrgK (m : List (Pc FM)) (i j : Nat) : Option (List (Pc FM)) := match m[i]?, m[j]? with
  | some (.fz rs ds), some (.fz rs' ds') => bif Nat.beq i j then none else some ((m.set i (.fz (rs ++ rs') (ds ++ ds'))).set j (.fz [] []))
  | _, _ => none
theorem mrgK_spec {E : List Ad} {m m' : List (Pc FM)} {i j : Nat} (h : mrgK m i j = some m') (H : Hp M w0 w (mden E m)) : Hp M w0 w (mden E m') := by
  unfold mrgK at h
  split at h
  · rename_i rs ds rs' ds' hi hj
    simp only [cond_eq_ite] at h
    split at h
    · cases h
    · rename_i hij
      simp only [Option.some.injEq] at h; subst h
      have hij : i ≠ j := fun e => hij (by rw [e]; exact Nat.beq_refl j)
      have H1 := H.merge (mden_at (E := E) hi) (mden_at (E := E) hj) hij
      have li : i < (mden E m).length := (List.getElem?_eq_some_iff.1 (mden_at (E := E) hi)).1
      have lj : j < (mden E m).length := (List.getElem?_eq_some_iff.1 (mden_at (E := E) hj)).1
      rw [mden_set, mden_set]
      have H2 := H1.prTo i (φ := fun w => (ROk E w rs ∧ dsOk w ds) ∧ ROk E w rs' ∧ dsOk w ds') (ψ := fun w => ROk E w (rs ++ rs') ∧ dsOk w (ds ++ ds')) (by rw [List.getElem?_set_ne (Ne.symm hij), List.getElem?_set_self li]) (fun w hw => ⟨ROk_app.2 ⟨hw.1.1, hw.2.1⟩, dsOk_append.2 ⟨hw.1.2, hw.2.2⟩⟩)
      have H3 := H2.prTo j (φ := fun _ => True) (ψ := fun w => ROk E w ([] : List (Nat × Ce FM)) ∧ dsOk w ([] : List (Ce FM))) (by rw [List.getElem?_set_ne hij, List.getElem?_set_self (by rw [List.length_set]; exact lj)]) (fun w _ => ⟨trivial, trivial⟩)
      rw [List.set_comm _ _ hij, List.set_set, List.set_comm _ _ (Ne.symm hij), List.set_set] at H3
      exact H3
  · cases h
end
end
end Go.Px
end
section
/-
  Quiet operations under tests that are not known, both ways at once. No condition.
-/
set_option linter.all false
namespace Go.Px
open Go.RowKit

section
variable {FM : Nat → Fm}

/-! ### What a state's shape wants of lengths -/
def Sg.hy : Sg FM → List Prop
  | .b (.cl _) => []
  | .b (.iz _ l n) => [l.length = n]
  | .f j l n => [l.length = n, ∀ a ∈ l, (FM j).wf a]
def chy : Ce FM → List Prop
  | [] => []
  | s :: c => s.hy ++ chy c
theorem chy_iff : ∀ {c : Ce FM}, All (chy c) ↔ cwf c
  | [] => by simp [chy, All, cwf]
  | .b (.cl x) :: c => by simp only [chy, Sg.hy, List.nil_append, cwf, Sg.wf, Sg0.wf, true_and]; exact chy_iff
  | .b (.iz k l n) :: c => by simp only [chy, Sg.hy, List.cons_append, List.nil_append, All, cwf, Sg.wf, Sg0.wf, chy_iff (c := c)]
  | .f j l n :: c => by simp only [chy, Sg.hy, List.cons_append, List.nil_append, All, cwf, Sg.wf, chy_iff (c := c), and_assoc]
def SV.hy : SV FM → List Prop
  | .one _ => []
  | .ag c => chy c
theorem SV.hy_iff {v : SV FM} : All v.hy ↔ v.wf := by
  cases v with
  | one x => simp [SV.hy, All, SV.wf]
  | ag c => exact chy_iff
def svhy : List (SV FM) → List Prop
  | [] => []
  | x :: l => x.hy ++ svhy l
theorem svhy_iff : ∀ {l : List (SV FM)}, All (svhy l) ↔ svwf l
  | [] => by simp [svhy, All, svwf]
  | x :: l => by simp only [svhy, All_append, SV.hy_iff, svwf, svhy_iff (l := l)]
def TV.hy : TV FM → List Prop
  | .v x => x.hy
  | .tup l => svhy l
  | .fn _ a b => svhy a ++ svhy b
theorem TV.hy_iff {v : TV FM} : All v.hy ↔ v.wf := by
  cases v with
  | v x => exact SV.hy_iff
  | tup l => exact svhy_iff
  | fn f a b => simp only [TV.hy, All_append, svhy_iff]; rfl
def sthy : ST FM → List Prop
  | [] => []
  | (_, some v) :: r => v.hy ++ sthy r
  | (_, none) :: r => sthy r
theorem sthy_iff : ∀ {T : ST FM}, All (sthy T) ↔ stwf T
  | [] => by simp [sthy, All, stwf]
  | (_, some v) :: r => by simp only [sthy, All_append, TV.hy_iff, stwf, otwf, sthy_iff (T := r)]
  | (_, none) :: r => by simp only [sthy, stwf, otwf, true_and]; exact sthy_iff
def rshy : List (Nat × Ce FM) → List Prop
  | [] => []
  | (_, c) :: r => chy c ++ rshy r
theorem rshy_iff : ∀ {r : List (Nat × Ce FM)}, All (rshy r) ↔ rswf r
  | [] => by simp [rshy, All, rswf]
  | (_, c) :: r => by simp only [rshy, All_append, chy_iff, rswf, rshy_iff (r := r)]
def Pc.hy : Pc FM → List Prop
  | .bk _ c _ => chy c
  | .sl _ n cap c _ s => chy c
  | .rd _ c => chy c
  | .pr _ => []
  | .lp _ _ _ _ => []
  | .mk _ _ => []
  | .fz rs _ => rshy rs
  | .mp _ n l => [∀ p ∈ l, p.1.length = n]
theorem Pc.hy_iff {p : Pc FM} : All p.hy ↔ p.wf := by
  cases p with
  | pr φ => simp [Pc.hy, All, Pc.wf]
  | lp id r st pd => simp [Pc.hy, All, Pc.wf]
  | mk id b => simp [Pc.hy, All, Pc.wf]
  | fz rs ds => exact rshy_iff
  | mp id n l => simp [Pc.hy, All, Pc.wf]
  | _ => exact chy_iff
def mhy : List (Pc FM) → List Prop
  | [] => []
  | p :: m => p.hy ++ mhy m
theorem mhy_iff : ∀ {m : List (Pc FM)}, All (mhy m) ↔ mwf m
  | [] => by simp [mhy, All, mwf]
  | p :: m => by simp only [mhy, All_append, Pc.hy_iff, mwf, mhy_iff (m := m)]

def conj : List Prop → Prop
  | [] => True
  | [p] => p
  | p :: q :: r => p ∧ conj (q :: r)
theorem conj_iff : ∀ {l : List Prop}, conj l ↔ All l
  | [] => Iff.rfl
  | [p] => by simp [conj, All]
  | p :: q :: r => by simp only [conj, All, conj_iff (l := q :: r)]
def andL : List Prop → Prop → Prop
  | [], P => P
  | p :: r, P => p ∧ andL r P
theorem andL_iff : ∀ {l : List Prop} {P : Prop}, andL l P ↔ All l ∧ P
  | [], P => by simp [andL, All]
  | p :: r, P => by simp only [andL, All, andL_iff (l := r), and_assoc]
def impL : List Prop → Prop → Prop
  | [], P => P
  | p :: r, P => p → impL r P
theorem impL_of : ∀ {l : List Prop} {P : Prop}, impL l P → All l → P
  | [], _, h, _ => h
  | _ :: _, _, h, ha => impL_of (h ha.1) ha.2

/-! ### Tests -/
/-- A truth at hand. -/
def bv : S0 → Option Bool
  | .xv (.bool g) => some g
  | .kb b => some b
  | _ => none
theorem bv_den {E : List Ad} {x : S0} {g : Bool} (h : bv x = some g) : x.den E = .bool g := by
  unfold bv at h
  split at h
  · simp only [Option.some.injEq] at h; subst h; rfl
  · simp only [Option.some.injEq] at h; subst h; rfl
  · cases h
inductive GS where
  | want
  | skip
  | ask (t : Nat) (g : Bool)
def gst (T : ST FM) (ops : Array Oper) (o : Oper) : Option GS := match o.guard with
  | none => some .want
  | some (j, b) => match (ops[j]?).bind (·.dst) with
    | none => none
    | some t => match lookS T t with
      | some (.v (.one (.kb v))) => some (bif v == b then .want else .skip)
      | some (.v (.one (.xv (.bool g)))) => some (.ask t g)
      | some (.tup []) => some .skip
      | _ => none
/-- What a skipped operation leaves, where a test asks for it. -/
def skV (ops : Array Oper) (i : Nat) : Option (TV FM) := bif ops.toList.any (fun o => match o.guard with | some (j, _) => Nat.beq j i | none => false) then some (.tup []) else none
theorem skV_wf (ops : Array Oper) (i : Nat) : otwf (skV (FM := FM) ops i) := by
  unfold skV
  cases ops.toList.any (fun o => match o.guard with | some (j, _) => Nat.beq j i | none => false) <;> exact trivial
theorem skV_lt (ops : Array Oper) (i n : Nat) : otlt n (skV (FM := FM) ops i) = true := by
  unfold skV
  cases ops.toList.any (fun o => match o.guard with | some (j, _) => Nat.beq j i | none => false) <;> rfl
theorem skV_den {ops : Array Oper} {i : Nat} {E : List Ad} {v : TV FM} (h : skV ops i = some v) : v.den E = undef := by
  unfold skV at h
  cases hb : ops.toList.any (fun o => match o.guard with | some (j, _) => Nat.beq j i | none => false)
  · rw [hb] at h; cases h
  · rw [hb] at h
    simp only [cond_true, Option.some.injEq] at h
    subst h
    rfl

theorem gst_want {ops : Array Oper} {o : Oper} {E : List Ad} {T : ST FM} (h : gst T ops o = some .want) : wantT (tden E T) ops o = some true := by
  unfold gst at h
  unfold wantT
  split at h
  · rename_i hg; rw [hg]
  · rename_i j b hg
    rw [hg]
    simp only
    split at h
    · cases h
    · rename_i t ht
      rw [ht]
      simp only
      split at h
      · rename_i v hv
        rw [lookS_den, hv]
        simp only [Option.map_some, TV.den, SV.den, S0.den]
        cases v <;> cases b <;> simp_all
      · cases h
      · cases h
      · cases h
theorem gst_skip {ops : Array Oper} {o : Oper} {E : List Ad} {T : ST FM} (h : gst T ops o = some .skip) : wantT (tden E T) ops o = some false := by
  unfold gst at h
  unfold wantT
  split at h
  · cases h
  · rename_i j b hg
    rw [hg]
    simp only
    split at h
    · cases h
    · rename_i t ht
      rw [ht]
      simp only
      split at h
      · rename_i v hv
        rw [lookS_den, hv]
        simp only [Option.map_some, TV.den, SV.den, S0.den]
        cases v <;> cases b <;> simp_all
      · cases h
      · rename_i hv
        rw [lookS_den, hv]
        rfl
      · cases h
theorem gst_ask {ops : Array Oper} {o : Oper} {E : List Ad} {T : ST FM} {t : Nat} {g : Bool} (h : gst T ops o = some (.ask t g)) : lookS T t = some (.v (.one (.xv (.bool g)))) := by
  unfold gst at h
  split at h
  · cases h
  · split at h
    · cases h
    · split at h
      · simp only [Option.some.injEq, cond_eq_ite] at h
        split at h <;> cases h
      · rename_i g' hl
        simp only [Option.some.injEq, GS.ask.injEq] at h
        obtain ⟨rfl, rfl⟩ := h
        exact hl
      · cases h
      · cases h

def setT (T : ST FM) (d : Option Nat) (v : Option (TV FM)) : ST FM := match d with
  | some t => (t, v) :: T
  | none => T
theorem tden_setT {E : List Ad} {T : ST FM} {d : Option Nat} {v : TV FM} : tden E (setT T d (some v)) = putT (tden E T) d (v.den E) := by
  cases d <;> rfl
theorem stwf_set {T : ST FM} (h : stwf T) {d : Option Nat} {v : Option (TV FM)} (hv : otwf v) : stwf (setT T d v) := by
  cases d with
  | none => exact h
  | some d => exact ⟨hv, h⟩
theorem stlt_set {n : Nat} {T : ST FM} (h : stlt n T = true) {d : Option Nat} {v : Option (TV FM)} (hv : otlt n v = true) : stlt n (setT T d v) = true := by
  cases d with
  | none => exact h
  | some d => simp only [setT, stlt, hv, h, Bool.and_self]
def kbT (T : ST FM) (t : Nat) (b : Bool) : ST FM := (t, some (.v (.one (.kb b)))) :: T
theorem kbT_wf {T : ST FM} (h : stwf T) (t : Nat) (b : Bool) : stwf (kbT T t b) := ⟨trivial, h⟩
theorem kbT_lt {n : Nat} {T : ST FM} (h : stlt n T = true) (t : Nat) (b : Bool) : stlt n (kbT T t b) = true := by
  simp only [kbT, stlt, h, Bool.and_true]; rfl
theorem kbT_look {E : List Ad} {T : ST FM} {t : Nat} {g b : Bool} (h : look (tden E T) t = some (.bool g)) (hg : g = b) (s : Nat) (v : Value) (hs : look (tden E (kbT T t b)) s = some v) : look (tden E T) s = some v := by
  subst hg
  simp only [kbT, tden, look] at hs
  split at hs
  · rename_i e
    simp only [beq_iff_eq] at e; subst e
    rw [h]; exact hs
  · exact hs

/-! ### Either of two values -/
def mrgB (g : Bool) : S0 → S0 → Option Bool
  | .kb true, y => (bv y).map fun y => g || y
  | .kb false, y => (bv y).map fun y => !g && y
  | x, .kb true => (bv x).map fun x => !g || x
  | x, .kb false => (bv x).map fun x => g && x
  | x, y => match bv x, bv y with
    | some x, some y => some (bif g then x else y)
    | _, _ => none
def mrg0 (g : Bool) : S0 → S0 → Option S0
  | .xv (.int k x), .xv (.int k' y) => bif decide (k = k') then some (.xv (.int k (bif g then x else y))) else none
  | x, y => (mrgB g x y).map fun b => .xv (.bool b)
theorem mrgB_spec {E : List Ad} {g : Bool} {x y : S0} {b : Bool} (h : mrgB g x y = some b) : Value.bool b = (bif g then x.den E else y.den E) := by
  unfold mrgB at h
  split at h
  · obtain ⟨z, hz, rfl⟩ := Option.map_eq_some_iff.1 h
    rw [bv_den hz]; cases g <;> simp [S0.den]
  · obtain ⟨z, hz, rfl⟩ := Option.map_eq_some_iff.1 h
    rw [bv_den hz]; cases g <;> simp [S0.den]
  · obtain ⟨z, hz, rfl⟩ := Option.map_eq_some_iff.1 h
    rw [bv_den hz]; cases g <;> simp [S0.den]
  · obtain ⟨z, hz, rfl⟩ := Option.map_eq_some_iff.1 h
    rw [bv_den hz]; cases g <;> simp [S0.den]
  · split at h
    · rename_i hx hy
      simp only [Option.some.injEq] at h; subst h
      rw [bv_den hx, bv_den hy]; cases g <;> rfl
    · cases h
theorem mrg0_spec {E : List Ad} {g : Bool} {x y z : S0} (h : mrg0 g x y = some z) : z.den E = (bif g then x.den E else y.den E) ∧ (∀ N, z.lt N = true) ∧ z.ok = true := by
  unfold mrg0 at h
  split at h
  · simp only [cond_eq_ite] at h
    split at h
    · rename_i hk
      have := of_decide_eq_true hk; subst this
      simp only [Option.some.injEq] at h; subst h
      exact ⟨by cases g <;> rfl, fun _ => rfl, rfl⟩
    · cases h
  · obtain ⟨b, hb, rfl⟩ := Option.map_eq_some_iff.1 h
    exact ⟨mrgB_spec hb, fun _ => rfl, rfl⟩
def mrgC (g : Bool) : Ce FM → Ce FM → Option (Ce FM)
  | [], [] => some []
  | .b (.cl x) :: c, .b (.cl y) :: d => match mrg0 g x y, mrgC g c d with
    | some z, some r => some (.b (.cl z) :: r)
    | _, _ => none
  | .b (.iz k l n) :: c, .b (.iz k' l' n') :: d => bif decide (k = k') && Nat.beq n n' then (mrgC g c d).map fun r => .b (.iz k (bif g then l else l') n) :: r else none
  | _, _ => none
theorem mrgC_spec {E : List Ad} {N : Nat} {g : Bool} : ∀ {c d r : Ce FM}, mrgC g c d = some r → (g = true → cwf c) → (g = false → cwf d) → cden E r = (bif g then cden E c else cden E d) ∧ cwf r ∧ cok N r = true
  | [], [], r, h, _, _ => by simp only [mrgC, Option.some.injEq] at h; subst h; exact ⟨by cases g <;> rfl, trivial, rfl⟩
  | .b (.cl x) :: c, .b (.cl y) :: d, r, h, hc, hd => by
    simp only [mrgC] at h
    split at h
    · rename_i z r' hz hr
      simp only [Option.some.injEq] at h; subst h
      obtain ⟨g1, g2, g3⟩ := mrgC_spec (E := E) (N := N) hr (fun h => (hc h).2) (fun h => (hd h).2)
      obtain ⟨q1, q2, q3⟩ := mrg0_spec (E := E) hz
      refine ⟨?_, ⟨trivial, g2⟩, by simp [cok, Sg.ok, Sg0.ok, q2, q3, g3]⟩
      simp only [cden, Sg.den, Sg0.den, g1, q1]
      cases g <;> rfl
    · cases h
  | .b (.iz k l n) :: c, .b (.iz k' l' n') :: d, r, h, hc, hd => by
    simp only [mrgC, cond_eq_ite] at h
    split at h
    · rename_i hk
      simp only [Bool.and_eq_true, decide_eq_true_eq] at hk
      obtain ⟨rfl, hn⟩ := hk
      have := beq_n hn; subst this
      obtain ⟨r', hr, rfl⟩ := Option.map_eq_some_iff.1 h
      obtain ⟨g1, g2, g3⟩ := mrgC_spec (E := E) (N := N) hr (fun h => (hc h).2) (fun h => (hd h).2)
      refine ⟨?_, ⟨?_, g2⟩, by simp [cok, Sg.ok, Sg0.ok, g3]⟩
      · simp only [cden, Sg.den, Sg0.den, g1]
        cases g <;> rfl
      · show (if g = true then l else l').length = n
        cases g
        · exact (hd rfl).1
        · exact (hc rfl).1
    · cases h
  | [], _ :: _, _, h, _, _ => by simp [mrgC] at h
  | .b (.cl _) :: _, [], _, h, _, _ => by simp [mrgC] at h
  | .b (.iz ..) :: _, [], _, h, _, _ => by simp [mrgC] at h
  | .f .. :: _, _, _, h, _, _ => by simp [mrgC] at h
  | .b (.cl _) :: _, .b (.iz ..) :: _, _, h, _, _ => by simp [mrgC] at h
  | .b (.cl _) :: _, .f .. :: _, _, h, _, _ => by simp [mrgC] at h
  | .b (.iz ..) :: _, .b (.cl _) :: _, _, h, _, _ => by simp [mrgC] at h
  | .b (.iz ..) :: _, .f .. :: _, _, h, _, _ => by simp [mrgC] at h

/-- What a pick yields: x if g, else y. -/
def mrgV (g : Bool) : TV FM → TV FM → Option (TV FM)
  | .v (.one x), .v (.one y) => (mrg0 g x y).map fun z => .v (.one z)
  | .v (.ag c), .v (.ag d) => (mrgC g c d).map fun z => .v (.ag z)
  | _, _ => none
theorem mrgV_spec {E : List Ad} {N : Nat} {g : Bool} {x y z : TV FM} (h : mrgV g x y = some z) (hx : g = true → x.wf) (hy : g = false → y.wf) : z.den E = (bif g then x.den E else y.den E) ∧ z.wf ∧ z.lt N = true := by
  unfold mrgV at h
  split at h
  · obtain ⟨z', hz, rfl⟩ := Option.map_eq_some_iff.1 h
    obtain ⟨q1, q2, q3⟩ := mrg0_spec (E := E) hz
    exact ⟨q1, trivial, q2 N⟩
  · obtain ⟨z', hz, rfl⟩ := Option.map_eq_some_iff.1 h
    obtain ⟨q1, q2, q3⟩ := mrgC_spec (E := E) (N := N) hz hx hy
    refine ⟨?_, q2, q3⟩
    simp only [TV.den, SV.den, q1]
    cases g <;> rfl
  · cases h

/-! ### Quiet operations -/
def dropO : Nat → OT → OT
  | 0, t => t
  | n + 1, .s _ t => dropO n t
  | _ + 1, t => t
def findPick (ops : Array Oper) (g : Nat) : Nat → OT → Option Nat
  | 0, _ => none
  | f + 1, .s i t => match ops[i]? with
    | none => none
    | some o => match o.op with
      | .pick (.tmp c) _ _ => bif Nat.beq c g then some 1 else (findPick ops g f t).map (· + 1)
      | _ => (findPick ops g f t).map (· + 1)
  | _, _ => none
def dstsO (ops : Array Oper) : Nat → OT → List Nat
  | n + 1, .s i t => match (ops[i]?).bind (·.dst) with
    | some d => d :: dstsO ops n t
    | none => dstsO ops n t
  | _, _ => []

def pickQ (X : Cx) (S : SS FM) (c : Nat) (a b : Operand) (ty : TypeId) : Option (TV FM) := match lookS S.T c with
  | some (.v (.one (.kb true))) => evS X S (some ty) a
  | some (.v (.one (.kb false))) => evS X S (some ty) b
  | some (.v (.one (.xv (.bool g)))) => match evS X S (some ty) a, evS X S (some ty) b with
    | some x, some y => mrgV g x y
    | _, _ => none
  | _ => none

def imp1 (g b : Bool) : List Prop → List Prop
  | [] => []
  | φ => [g = b → conj φ]
theorem imp1_spec {g b : Bool} {φ : List Prop} (h : All (imp1 g b φ)) (hg : g = b) : All φ := by
  cases φ with
  | nil => trivial
  | cons p r => exact conj_iff.1 (h.1 hg)
def kbCk (T1 T2 : ST FM) (t : Nat) : Bool := match lookS T1 t, lookS T2 t with
  | some (.v (.one (.kb true))), some (.v (.one (.kb false))) => true
  | _, _ => false
/-- The pick where two ways come together: the table behind it. -/
def mrgP (X : Cx) (N : Nat) (ops : Array Oper) (fl : FL) (S : SS FM) (t : Nat) (g : Bool) (k : Nat) (L : OT) (T T1 T2 : ST FM) : Option (ST FM) :=
  match dropO k L with
  | .s ip _ => match ops[ip]? with
    | some lo => match lo.op, lo.dst, gst T1 ops lo, gst T2 ops lo with
      | .pick (.tmp c) a b, some d, some .want, some .want => match evS X { S with T := T1 } (some lo.type) a, evS X { S with T := T2 } (some lo.type) b with
        | some v1, some v2 => match mrgV g v1 v2 with
          | some v => bif Nat.beq c t && Nat.ble (fl ip) 1 && dstOk N (some d) && kbCk T1 T2 t then some ((d, some v) :: (unk (dstsO ops k L) ++ T)) else none
          | none => none
        | _, _ => none
      | _, _, _, _ => none
    | none => none
  | _ => none
def qrun (X : Cx) (N : Nat) (ops : Array Oper) (fl : FL) (S : SS FM) : Nat → Nat → OT → ST FM → Option (List Prop × ST FM)
  | 0, _, _, _ => none
  | _ + 1, 0, _, T => some ([], T)
  | f + 1, n + 1, .s i rest, T => match ops[i]? with
    | none => none
    | some o =>
      bif !(dstOk N o.dst) then none else
      match gst T ops o with
      | none => none
      | some .skip => qrun X N ops fl S f n rest (setT T o.dst (skV ops i))
      | some .want => match o.op with
        | .pick (.tmp c) a b => match pickQ X { S with T := T } c a b o.type with
          | some v => bif Nat.ble (fl i) 1 then qrun X N ops fl S f n rest (setT T o.dst (some v)) else none
          | none => none
        | _ => match stepQ X { S with T := T } o with
          | some (φ, v, []) => bif Nat.ble (fl i) 1 && (!(isLd o.op) || Nat.beq (fl i) 1) then (qrun X N ops fl S f n rest (setT T o.dst (some v))).map fun (ψ, T') => (φ ++ ψ, T') else none
          | _ => none
      | some (.ask t g) => match findPick ops t 60 (.s i rest) with
        | some (k + 1) => bif Nat.ble k n then
            match qrun X N ops fl S f k (.s i rest) (kbT T t true), qrun X N ops fl S f k (.s i rest) (kbT T t false) with
            | some (φ1, T1), some (φ2, T2) => match mrgP X N ops fl S t g k (.s i rest) T T1 T2 with
              | some T' => (qrun X N ops fl S f (n - k) (dropO (k + 1) (.s i rest)) T').map fun (ψ, T'') => (imp1 g true φ1 ++ (imp1 g false φ2 ++ ψ), T'')
              | none => none
            | _, _ => none else none
        | _ => none
  | _ + 1, _ + 1, _, _ => none

theorem WC.mono {P : Program} {N : FN} {ops : Array Oper} {Q : Exit → Act → World → Prop} {fl : FL} {L : OT} {T T' : Tab} {w : World} (h : WC P N ops Q fl L T' w) (hT : ∀ t v, look T' t = some v → look T t = some v) : WC P N ops Q fl L T w :=
  fun a ha => h a ⟨ha.1, ha.2.1, fun t v ht => ha.2.2 t v (hT t v ht)⟩

variable {X : Cx} {N : FN} {ops : Array Oper} {fl : FL} {S : SS FM} {Q : Exit → Act → World → Prop} {w : World}

theorem SS.WF.withT (hS : S.WF) {T : ST FM} (h1 : stwf T) (h2 : stlt S.E.length T = true) : ({ S with T := T } : SS FM).WF := ⟨hS.b, hS.r, h1, h2, hS.m, hS.ml, hS.v⟩

theorem opT_of {E : List Ad} {T : ST FM} {i : Nat} {o : Oper} (ho : ops[i]? = some o) (hd : dstOk N o.dst = true) (hg : gst T ops o = some .want) : opT N ops (tden E T) i = some o := by
  unfold opT
  rw [ho]
  simp only [hd, gst_want hg, beq_self_eq_true, Bool.and_self, if_true]

theorem wc_pickK {E : List Ad} {T : ST FM} {i : Nat} {rest : OT} {o : Oper} {c : Nat} {a b : Operand} {v : Value} {g : Bool} (ho : ops[i]? = some o) (hd : dstOk N o.dst = true) (hg : gst T ops o = some .want) (hf : Nat.ble (fl i) 1 = true)
    (hop : o.op = .pick (.tmp c) a b) (hc : look (tden E T) c = some (.bool g)) (hv : evT (tden E T) (if g then a else b) = some v) (h : WC X.P N ops Q fl rest (putT (tden E T) o.dst v) w) : WC X.P N ops Q fl (.s i rest) (tden E T) w := by
  refine wc_val (opT_of ho hd hg) hf (fun ac w' ha _ => ?_) h
  have hcv : ac.eval (.tmp c) = .bool g := evT_spec ha hc
  have hvv := evT_spec ha hv
  unfold execOp
  cases g
  · simp only [Bool.false_eq_true, if_false] at hvv
    simp [hop, hcv, hvv, asBool]
  · simp only [if_true] at hvv
    simp [hop, hcv, hvv, asBool]

theorem look_of {E : List Ad} {T : ST FM} {t : Nat} {v : TV FM} (h : lookS T t = some v) : look (tden E T) t = some (v.den E) := by
  rw [lookS_den, h]; rfl

theorem pickQ_ok (hS : S.WF) {T : ST FM} (h1 : stwf T) (h2 : stlt S.E.length T = true) {i : Nat} {rest : OT} {o : Oper} {c : Nat} {a b : Operand} {v : TV FM} (ho : ops[i]? = some o) (hd : dstOk N o.dst = true) (hg : gst T ops o = some .want) (hf : Nat.ble (fl i) 1 = true)
    (hop : o.op = .pick (.tmp c) a b) (hv : pickQ X { S with T := T } c a b o.type = some v) : v.wf ∧ v.lt S.E.length = true ∧ (WC X.P N ops Q fl rest (putT (tden S.E T) o.dst (v.den S.E)) w → WC X.P N ops Q fl (.s i rest) (tden S.E T) w) := by
  have hS' := hS.withT h1 h2
  unfold pickQ at hv
  split at hv
  · rename_i hl
    obtain ⟨q1, q2, q3⟩ := evS_spec hS' hv
    exact ⟨q2, q3, wc_pickK (X := X) (g := true) ho hd hg hf hop (look_of hl) q1⟩
  · rename_i hl
    obtain ⟨q1, q2, q3⟩ := evS_spec hS' hv
    exact ⟨q2, q3, wc_pickK (X := X) (g := false) ho hd hg hf hop (look_of hl) q1⟩
  · rename_i g hl
    split at hv
    · rename_i x y hx hy
      obtain ⟨q1, q2, q3⟩ := evS_spec hS' hx
      obtain ⟨p1, p2, p3⟩ := evS_spec hS' hy
      obtain ⟨r1, r2, r3⟩ := mrgV_spec (E := S.E) (N := S.E.length) hv (fun _ => q2) (fun _ => p2)
      refine ⟨r2, r3, fun h => wc_pickK (X := X) (g := g) (v := v.den S.E) ho hd hg hf hop (look_of hl) ?_ h⟩
      rw [r1]
      cases g
      · exact p1
      · exact q1
    · cases hv
  · cases hv

def maxK : Tab → Nat
  | [] => 0
  | (t, _) :: r => max (t + 1) (maxK r)
theorem maxK_lt : ∀ {T : Tab} {t : Nat} {v : Value}, look T t = some v → t < maxK T
  | [], _, _, h => by simp [look] at h
  | (s, u) :: r, t, v, h => by
    simp only [look] at h
    simp only [maxK]
    split at h
    · rename_i e
      simp only [beq_iff_eq] at e
      omega
    · have := maxK_lt h
      omega
theorem tm_some (T : Tab) : ∃ N a, Tm N T a := by
  refine ⟨⟨maxK T, []⟩, { tmps := Array.ofFn (n := maxK T) fun i => (look T i).getD undef, defers := [] }, rfl, by simp, fun t v h => ?_⟩
  have := maxK_lt h
  simp [this, h]

/-- A quiet operation. -/
theorem stepQ_wc (hS : S.WF) {M : Nat → Prop} {w0 : World} (H : HS M w0 w S) {i : Nat} {rest : OT} {o : Oper} {φ : List Prop} {v : TV FM} {x : List (Ad × Vw)} (ho : ops[i]? = some o) (hd : dstOk N o.dst = true)
    (hg : gst S.T ops o = some .want) (hf : (Nat.ble (fl i) 1 && (!(isLd o.op) || Nat.beq (fl i) 1)) = true) (hfd : fl.d = no) (h : stepQ X S o = some (φ, v, x)) (hφ : All φ) :
    v.wf ∧ v.lt (S.E.length + x.length) = true ∧ vwf (S.E ++ x.map (·.1)) (x.map (·.2) ++ S.V) ∧ (WC X.P N ops Q fl rest (putT S.Td o.dst (v.den (S.E ++ x.map (·.1)))) w → WC X.P N ops Q fl (.s i rest) S.Td w) := by
  simp only [Bool.and_eq_true, Bool.or_eq_true, Bool.not_eq_true'] at hf
  obtain ⟨N', a, ha⟩ := tm_some S.Td
  have q := stepQ_ok hS ha H h hφ (fun _ => KeepD.refl no w)
  refine ⟨q.wf, q.lt, q.vw, fun hh => wc_val (opT_of (T := S.T) ho hd hg) hf.1 (fun a w' ha hw' => ?_) hh⟩
  refine (stepQ_ok hS ha H h hφ fun hl => ?_).run
  rcases hf.2 with h' | h'
  · rw [hl] at h'; cases h'
  · have := beq_n h'
    rcases hw' with h0 | hk
    · omega
    · rw [hfd] at hk; exact hk
theorem stepQ_wc3 (hS : S.WF) {M : Nat → Prop} {w0 : World} (H : HS M w0 w S) {i : Nat} {rest : OT} {o : Oper} {φ : List Prop} {v : TV FM} {x : List (Ad × Vw)} (ho : ops[i]? = some o) (hd : dstOk N o.dst = true)
    (hg : gst S.T ops o = some .want) (hf : (Nat.ble (fl i) 1 && (!(isLd o.op) || Nat.beq (fl i) 1)) = true ∨ Nat.beq (fl i) 3 = true) (hfd : fl.d = no) (h : stepQ X S o = some (φ, v, x)) (hφ : All φ) :
    v.wf ∧ v.lt (S.E.length + x.length) = true ∧ vwf (S.E ++ x.map (·.1)) (x.map (·.2) ++ S.V) ∧ (WC X.P N ops Q fl rest (putT S.Td o.dst (v.den (S.E ++ x.map (·.1)))) w → WC X.P N ops Q fl (.s i rest) S.Td w) := by
  rcases hf with hf | hf
  · exact stepQ_wc hS H ho hd hg hf hfd h hφ
  have hf := beq_n hf
  obtain ⟨N', a, ha⟩ := tm_some S.Td
  have q := stepQ_ok hS ha H h hφ (fun _ => KeepD.refl no w)
  refine ⟨q.wf, q.lt, q.vw, fun hh => ?_⟩
  have hop := opT_of (T := S.T) (E := S.E) ho hd hg
  refine wc_heap hop (by rw [hf]; rfl) fun a ha => ?_
  obtain ⟨h1, h2, h3⟩ := opT_spec ha hop
  unfold operR
  rw [(stepQ_ok hS ha H h hφ fun _ => KeepD.refl no w).run]
  exact ⟨fun h => by omega, hh _ (ha.putT h2 _)⟩
end
end Go.Px
end
section
/-
  Quiet operations under tests: that they do what was computed. No condition.
-/
set_option linter.all false
namespace Go.Px
open Go.RowKit

section
variable {FM : Nat → Fm}
variable {X : Cx} {N : FN} {ops : Array Oper} {fl : FL} {S : SS FM} {Q : Exit → Act → World → Prop} {w : World}

theorem wc_skipS {T : ST FM} {i : Nat} {rest : OT} {o : Oper} {E : List Ad} (ho : ops[i]? = some o) (hd : dstOk N o.dst = true) (hg : gst T ops o = some .skip)
    (h : WC X.P N ops Q fl rest (tden E (setT T o.dst (skV ops i))) w) : WC X.P N ops Q fl (.s i rest) (tden E T) w := by
  refine wc_skip o.dst ?_ (h.mono fun t v ht => ?_)
  · unfold skT
    rw [ho]
    simp only [hd, gst_skip hg, beq_self_eq_true, Bool.and_self, if_true]
  · cases hs : skV (FM := FM) ops i with
    | some x =>
      rw [hs, tden_setT, skV_den hs] at ht
      exact ht
    | none =>
    rw [hs] at ht
    cases hdst : o.dst with
    | none => rw [hdst] at ht; exact ht
    | some d =>
      rw [hdst] at ht
      simp only [setT, tden, look_filter] at ht
      simp only [putT, look]
      split at ht
      · cases ht
      · rename_i hne
        rw [if_neg (by simpa using hne)]
        exact ht

theorem memN_cons {t d : Nat} {l : List Nat} (h : memN t (d :: l) = false) : t ≠ d ∧ memN t l = false := by
  simp only [memN, Bool.or_eq_false_iff] at h
  refine ⟨fun e => ?_, h.2⟩
  subst e
  have : Nat.beq t t = true := Nat.beq_refl t
  rw [this] at h; cases h.1
theorem lookS_set {T : ST FM} {d : Option Nat} {v : Option (TV FM)} {t : Nat} (h : ∀ x, d = some x → t ≠ x) : lookS (setT T d v) t = lookS T t := by
  cases d with
  | none => rfl
  | some d =>
    have hne : Nat.beq d t = false := by
      cases e : Nat.beq d t with
      | false => rfl
      | true => exact absurd (beq_n e).symm (h d rfl)
    simp only [setT, lookS, hne, cond_false]
theorem dstsO_s {i : Nat} {o : Oper} {n : Nat} {t : OT} (ho : ops[i]? = some o) : dstsO ops (n + 1) (.s i t) = (match o.dst with | some d => d :: dstsO ops n t | none => dstsO ops n t) := by
  simp only [dstsO, ho, Option.bind_some]
  all_goals (cases o.dst <;> rfl)
theorem dsts_out {i : Nat} {o : Oper} {n : Nat} {t : OT} {s : Nat} (ho : ops[i]? = some o) (h : memN s (dstsO ops (n + 1) (.s i t)) = false) : (∀ x, o.dst = some x → s ≠ x) ∧ memN s (dstsO ops n t) = false := by
  rw [dstsO_s ho] at h
  cases hd : o.dst with
  | none => rw [hd] at h; exact ⟨fun x hx => (by cases hx), h⟩
  | some d =>
    rw [hd] at h
    obtain ⟨h1, h2⟩ := memN_cons h
    exact ⟨fun x hx => (by cases hx; exact h1), h2⟩
theorem dropO_add : ∀ (k n : Nat) (L : OT), (∀ m, m < k → ∃ i t, dropO m L = .s i t) → dropO n (dropO k L) = dropO (k + n) L
  | 0, n, L, _ => by simp [dropO]
  | k + 1, n, .s i t, h => by
    rw [show k + 1 + n = (k + n) + 1 by omega]
    simp only [dropO]
    exact dropO_add k n t fun m hm => by
      obtain ⟨i', t', h'⟩ := h (m + 1) (by omega)
      exact ⟨i', t', by simpa [dropO] using h'⟩
  | k + 1, n, .nil, h => by
    obtain ⟨i, t, h'⟩ := h 0 (by omega)
    simp [dropO] at h'
  | k + 1, n, .br a b, h => by
    obtain ⟨i, t, h'⟩ := h 0 (by omega)
    simp [dropO] at h'

theorem dstsO_drop : ∀ (k n : Nat) (L : OT) (s : Nat), (∀ m, m < k → ∃ i t, dropO m L = .s i t) → memN s (dstsO ops (k + n) L) = false → memN s (dstsO ops k L) = false ∧ memN s (dstsO ops n (dropO k L)) = false
  | 0, n, L, s, _, h => by
    rw [Nat.zero_add] at h
    exact ⟨by cases L <;> rfl, by simpa [dropO] using h⟩
  | k + 1, n, .s i t, s, hm, h => by
    rw [show k + 1 + n = (k + n) + 1 by omega] at h
    have hm' : ∀ m, m < k → ∃ i t', dropO m t = .s i t' := fun m h => by
      obtain ⟨i', t', h'⟩ := hm (m + 1) (by omega)
      exact ⟨i', t', by simpa [dropO] using h'⟩
    simp only [dstsO] at h ⊢
    simp only [dropO]
    cases hd : (ops[i]?).bind (·.dst) with
    | none =>
      rw [hd] at h
      exact dstsO_drop k n t s hm' h
    | some d =>
      rw [hd] at h
      simp only [memN, Bool.or_eq_false_iff] at h ⊢
      obtain ⟨h1, h2⟩ := dstsO_drop k n t s hm' h.2
      exact ⟨⟨h.1, h1⟩, h2⟩
  | k + 1, n, .nil, s, hm, _ => by
    obtain ⟨i, t, h'⟩ := hm 0 (by omega)
    simp [dropO] at h'
  | k + 1, n, .br a b, s, hm, _ => by
    obtain ⟨i, t, h'⟩ := hm 0 (by omega)
    simp [dropO] at h'
/-- How many operations there are, one behind the other. -/
def runsO : Nat → OT → Bool
  | 0, _ => true
  | n + 1, .s _ t => runsO n t
  | _ + 1, _ => false
theorem runsO_drop : ∀ {k : Nat} {L : OT}, runsO k L = true → ∀ m, m < k → ∃ i t, dropO m L = .s i t
  | 0, _, _, m, hm => by omega
  | k + 1, .s i t, h, 0, _ => ⟨i, t, rfl⟩
  | k + 1, .s i t, h, m + 1, hm => by
    obtain ⟨i', t', h'⟩ := runsO_drop (k := k) (L := t) h m (by omega)
    exact ⟨i', t', by simpa [dropO] using h'⟩
  | k + 1, .nil, h, _, _ => by simp [runsO] at h
  | k + 1, .br _ _, h, _, _ => by simp [runsO] at h
theorem runsO_succ : ∀ {k : Nat} {L : OT} {i : Nat} {t : OT}, runsO k L = true → dropO k L = .s i t → runsO (k + 1) L = true
  | 0, .s i t, _, _, _, _ => rfl
  | 0, .nil, _, _, _, h => by simp [dropO] at h
  | 0, .br _ _, _, _, _, h => by simp [dropO] at h
  | k + 1, .s i t, _, _, h1, h2 => runsO_succ (k := k) (L := t) h1 (by simpa [dropO] using h2)
  | k + 1, .nil, _, _, h, _ => by simp [runsO] at h
  | k + 1, .br _ _, _, _, h, _ => by simp [runsO] at h
theorem runsO_add : ∀ {a b : Nat} {L : OT}, runsO a L = true → runsO b (dropO a L) = true → runsO (a + b) L = true
  | 0, b, L, _, h => by simpa [dropO] using h
  | a + 1, b, .s i t, h1, h2 => by
    rw [show a + 1 + b = (a + b) + 1 by omega]
    exact runsO_add (a := a) (L := t) h1 (by simpa [dropO] using h2)
  | a + 1, b, .nil, h, _ => by simp [runsO] at h
  | a + 1, b, .br _ _, h, _ => by simp [runsO] at h

theorem qrun_ok (hS : S.WF) {M : Nat → Prop} {w0 : World} (H : HS M w0 w S) (hfd : fl.d = no) : ∀ (f n : Nat) (L : OT) (T : ST FM) (φ : List Prop) (T' : ST FM),
    qrun X N ops fl S f n L T = some (φ, T') → All φ → stwf T → stlt S.E.length T = true →
    runsO n L = true ∧ stwf T' ∧ stlt S.E.length T' = true ∧ (∀ t, memN t (dstsO ops n L) = false → lookS T' t = lookS T t) ∧
      (WC X.P N ops Q fl (dropO n L) (tden S.E T') w → WC X.P N ops Q fl L (tden S.E T) w)
  | 0, n, L, T, φ, T', h, _, _, _ => by cases n <;> cases L <;> simp [qrun] at h
  | f + 1, 0, L, T, φ, T', h, hφ, h1, h2 => by
    simp only [qrun, Option.some.injEq, Prod.mk.injEq] at h
    obtain ⟨rfl, rfl⟩ := h
    exact ⟨rfl, h1, h2, fun _ _ => rfl, fun h => by simpa [dropO] using h⟩
  | f + 1, n + 1, .nil, T, φ, T', h, _, _, _ => by simp [qrun] at h
  | f + 1, n + 1, .br _ _, T, φ, T', h, _, _, _ => by simp [qrun] at h
  | f + 1, n + 1, .s i rest, T, φ, T', h, hφ, h1, h2 => by
    simp only [qrun] at h
    split at h
    · cases h
    rename_i o ho
    simp only [cond_eq_ite] at h
    split at h
    · cases h
    rename_i hd
    have hd : dstOk N o.dst = true := by simpa using hd
    -- one operation, and those behind it
    have next : ∀ {v : Option (TV FM)} {φ' : List Prop}, qrun X N ops fl S f n rest (setT T o.dst v) = some (φ', T') → All φ' → otwf v → otlt S.E.length v = true →
        (WC X.P N ops Q fl rest (tden S.E (setT T o.dst v)) w → WC X.P N ops Q fl (.s i rest) (tden S.E T) w) →
        runsO (n + 1) (.s i rest) = true ∧ stwf T' ∧ stlt S.E.length T' = true ∧ (∀ t, memN t (dstsO ops (n + 1) (.s i rest)) = false → lookS T' t = lookS T t) ∧
          (WC X.P N ops Q fl (dropO (n + 1) (.s i rest)) (tden S.E T') w → WC X.P N ops Q fl (.s i rest) (tden S.E T) w) := by
      intro v φ' hq hφ' hv1 hv2 hstep
      obtain ⟨g0, g1, g2, g4, g5⟩ := qrun_ok hS H hfd f n rest _ φ' T' hq hφ' (stwf_set h1 hv1) (stlt_set h2 hv2)
      refine ⟨g0, g1, g2, fun t ht => ?_, fun hh => hstep (g5 (by simpa [dropO] using hh))⟩
      obtain ⟨q1, q2⟩ := dsts_out ho ht
      rw [g4 t q2, lookS_set q1]
    split at h
    · cases h
    · rename_i hg
      exact next h hφ (skV_wf _ _) (skV_lt _ _ _) (wc_skipS ho hd hg)
    · rename_i hg
      split at h
      · rename_i c a b hop
        split at h
        · rename_i v hv
          split at h
          · rename_i hle
            obtain ⟨q1, q2, q3⟩ := pickQ_ok (Q := Q) (w := w) (rest := rest) hS h1 h2 ho hd hg hle hop hv
            exact next h hφ q1 q2 (fun hh => q3 (by rw [← tden_setT]; exact hh))
          · cases h
        · cases h
      · split at h
        · rename_i φ1 v hq
          split at h
          · rename_i hle
            obtain ⟨⟨ψ, T2⟩, hr, h⟩ := Option.map_eq_some_iff.1 h
            simp only [Prod.mk.injEq] at h
            obtain ⟨rfl, rfl⟩ := h
            obtain ⟨p1, p2⟩ := All_append.1 hφ
            have hS' := hS.withT h1 h2
            obtain ⟨q1, q2, -, q3⟩ := stepQ_wc (Q := Q) (rest := rest) (S := { S with T := T }) hS' ⟨H.hp, H.rd⟩ ho hd hg hle hfd hq p1
            simp only [List.map_nil, List.append_nil, List.length_nil, Nat.add_zero] at q2 q3
            exact next hr p2 q1 q2 (fun hh => q3 (by show WC X.P N ops Q fl rest (putT (tden S.E T) o.dst (v.den S.E)) w; rw [← tden_setT]; exact hh))
          · cases h
        · cases h
    · rename_i t g hg
      have hbt : look (tden S.E T) t = some (.bool g) := look_of (gst_ask (E := S.E) hg)
      split at h
      · rename_i k hk
        split at h
        · rename_i hkn
          have hkn := Nat.le_of_ble_eq_true hkn
          split at h
          · rename_i φ1 T1 φ2 T2 hq1 hq2
            split at h
            · rename_i T3 hm
              obtain ⟨⟨ψ, T4⟩, hr, h⟩ := Option.map_eq_some_iff.1 h
              simp only [Prod.mk.injEq] at h
              obtain ⟨rfl, rfl⟩ := h
              obtain ⟨p1, p2⟩ := All_append.1 hφ
              obtain ⟨p2, p3⟩ := All_append.1 p2
              -- the pick
              unfold mrgP at hm
              split at hm
              · rename_i ip rest' hdr
                split at hm
                · rename_i lo hlo
                  split at hm
                  · rename_i c a b d hlop hldst hlg1 hlg2
                    split at hm
                    · rename_i v1 v2 hv1 hv2
                      split at hm
                      · rename_i v hv
                        simp only [cond_eq_ite] at hm
                        split at hm
                        · rename_i hc
                          simp only [Bool.and_eq_true] at hc
                          obtain ⟨⟨⟨hct, hfl⟩, hdd⟩, hkk⟩ := hc
                          have := beq_n hct; subst this
                          simp only [Option.some.injEq] at hm; subst hm
                          have hk12 : lookS T1 c = some (.v (.one (.kb true))) ∧ lookS T2 c = some (.v (.one (.kb false))) := by
                            unfold kbCk at hkk
                            split at hkk
                            · rename_i e1 e2; exact ⟨e1, e2⟩
                            · cases hkk
                          -- either way, up to the pick and behind it
                          have way : ∀ (gb : Bool) (φg : List Prop) (Tg : ST FM) (vg : TV FM), g = gb → qrun X N ops fl S f k (.s i rest) (kbT T c gb) = some (φg, Tg) → All φg →
                              evS X { S with T := Tg } (some lo.type) (if gb then a else b) = some vg → gst Tg ops lo = some .want → lookS Tg c = some (.v (.one (.kb gb))) →
                              (runsO k (.s i rest) = true ∧ vg.wf) ∧ (v.den S.E = vg.den S.E → WC X.P N ops Q fl rest' (tden S.E ((d, some v) :: (unk (dstsO ops k (.s i rest)) ++ T))) w → WC X.P N ops Q fl (.s i rest) (tden S.E T) w) := by
                            intro gb φg Tg vg hgb hqg hφg hvg hlg hkg
                            obtain ⟨g0, g1, g2, g4, g5⟩ := qrun_ok hS H hfd f k (.s i rest) _ φg Tg hqg hφg (kbT_wf h1 c gb) (kbT_lt h2 c gb)
                            obtain ⟨e1, e2, e3⟩ := evS_spec (hS.withT g1 g2) hvg
                            refine ⟨⟨g0, e2⟩, fun hvv hw => (g5 ?_).mono (fun s u hs => ?_)⟩
                            rotate_left
                            · exact kbT_look hbt hgb s u hs
                            rw [hdr]
                            refine wc_pickK (X := X) (E := S.E) (g := gb) (v := v.den S.E) hlo (by rw [hldst]; exact hdd) hlg hfl hlop (look_of hkg) (by rw [hvv]; exact e1) (hw.mono fun s u hs => ?_)
                            rw [lookS_den] at hs
                            rw [hldst]
                            simp only [putT, look]
                            simp only [lookS, cond_eq_ite] at hs
                            by_cases es : d = s
                            · subst es
                              rw [if_pos (Nat.beq_refl d)] at hs
                              simp only [Option.map_some, Option.some.injEq] at hs
                              simp [hs]
                            · rw [if_neg (fun h => es (beq_n h))] at hs
                              rw [if_neg (by simpa using es), lookS_den]
                              cases hms : memN s (dstsO ops k (.s i rest)) with
                              | true =>
                                rw [lookS_append_in (by rw [keyIn_unk]; exact hms), lookS_unk] at hs
                                cases hs
                              | false =>
                                rw [lookS_append_out (by rw [keyIn_unk]; exact hms)] at hs
                                rw [g4 s hms]
                                simp only [kbT, lookS, cond_eq_ite]
                                by_cases ec : c = s
                                · subst ec
                                  rw [if_pos (Nat.beq_refl c)]
                                  rw [← lookS_den, hbt] at hs
                                  simp only [Option.some.injEq] at hs; subst hs
                                  subst hgb; rfl
                                · rw [if_neg (fun h => ec (beq_n h))]; exact hs
                          have w1 := fun hg => way true φ1 T1 v1 hg hq1 (imp1_spec p1 hg) hv1 hlg1 hk12.1
                          have w2 := fun hg => way false φ2 T2 v2 hg hq2 (imp1_spec p2 hg) hv2 hlg2 hk12.2
                          have hruns : runsO k (.s i rest) = true := by
                            cases hgg : g with
                            | true => exact (w1 hgg).1.1
                            | false => exact (w2 hgg).1.1
                          have hruns1 := runsO_succ hruns hdr
                          obtain ⟨r1, r2, r3⟩ := mrgV_spec (E := S.E) (N := S.E.length) hv (fun hg => (w1 hg).1.2) (fun hg => (w2 hg).1.2)
                          have hstep1 := runsO_drop hruns1
                          have hdr1 : dropO (k + 1) (.s i rest) = rest' := by
                            have := dropO_add k 1 (.s i rest) (runsO_drop hruns)
                            rw [← this, hdr]; simp [dropO]
                          obtain ⟨g0, g1, g2, g4, g5⟩ := qrun_ok hS H hfd f (n - k) (dropO (k + 1) (.s i rest)) _ ψ T4 hr p3 ⟨r2, stwf_append.2 ⟨stwf_unk, h1⟩⟩ (by simp only [stlt, otlt, r3, Bool.true_and]; exact stlt_append.2 ⟨stlt_unk, h2⟩)
                          have hnk : k + 1 + (n - k) = n + 1 := by omega
                          refine ⟨by rw [← hnk]; exact runsO_add hruns1 g0, g1, g2, fun s hs => ?_, fun hh => ?_⟩
                          · rw [← hnk] at hs
                            obtain ⟨s1, s2⟩ := dstsO_drop (k + 1) (n - k) (.s i rest) s hstep1 hs
                            obtain ⟨s3, s4⟩ := dstsO_drop k 1 (.s i rest) s (runsO_drop hruns) s1
                            rw [hdr] at s4
                            simp only [dstsO, hlo, Option.bind_some, hldst, memN, Bool.or_false] at s4
                            rw [g4 s s2]
                            simp only [lookS, s4, cond_false]
                            rw [lookS_append_out (by rw [keyIn_unk]; exact s3)]
                          · have h5 := g5 (by rw [dropO_add _ _ _ hstep1, hnk]; exact hh)
                            rw [hdr1] at h5
                            cases hgg : g with
                            | true => exact (w1 hgg).2 (by rw [r1, hgg]; rfl) h5
                            | false => exact (w2 hgg).2 (by rw [r1, hgg]; rfl) h5
                        · cases hm
                      · cases hm
                    · cases hm
                  · cases hm
                · cases hm
              · cases hm
            · cases h
          · cases h
        · cases h
      · cases h
end
end Go.Px
end
section
/-
  Contracts: what a function is handed, as plain data; how a caller's state says it; what it answers. No condition.
-/
set_option linter.all false
namespace Go.Px
open Go.RowKit

/-- A part of an argument: a number, a truth, numbers of an array, records of an array, a slice of numbers or of records, a text, anything of one cell. -/
inductive Cm where
  | int (k : IntKind)
  | boo
  | arr (k : IntKind) (n : Nat)
  | rcs (j n : Nat)
  | sli (k : IntKind)
  | slr (j : Nat)
  | str
  | any
  | ptr (k : IntKind) (n : Nat)
inductive Arg where
  | one (c : Cm)
  | ag (l : List Cm)

section
variable {FM : Nat → Fm}

def Cm.T (FM : Nat → Fm) : Cm → Type
  | .int _ => Int
  | .boo => Bool
  | .arr _ _ => List Int
  | .rcs j _ => List (FM j).α
  | .sli _ => Option Addr × List Int × Nat
  | .slr j => Option Addr × List (FM j).α × Nat
  | .str => List Int
  | .any => Value
  | .ptr _ _ => Nat × List Int
def CsT (FM : Nat → Fm) : List Cm → Type
  | [] => Unit
  | c :: r => c.T FM × CsT FM r
def Arg.T (FM : Nat → Fm) : Arg → Type
  | .one c => c.T FM
  | .ag l => CsT FM l
def SgT (FM : Nat → Fm) : List Arg → Type
  | [] => Unit
  | a :: r => a.T FM × SgT FM r

abbrev Bd (FM : Nat → Fm) := List Ad × List (Nat × Ce FM)
def Cm.sg (n : Nat) : (c : Cm) → c.T FM → Sg FM
  | .int k, x => .b (.cl (.xv (.int k x)))
  | .boo, x => .b (.cl (.xv (.bool x)))
  | .arr k n, l => .b (.iz k l n)
  | .rcs j n, l => .f j l n
  | .sli _, x => .b (.cl (.sc n 0 x.2.1.length x.2.2 false))
  | .slr _, x => .b (.cl (.sc n 0 x.2.1.length x.2.2 false))
  | .str, l => .b (.cl (.st l))
  | .any, v => .b (.cl (.xv v))
  | .ptr _ _, _ => .b (.cl (.pt n 0))
def Cm.bd (n : Nat) : (c : Cm) → c.T FM → Bd FM
  | .sli k, x => ([.ad x.1], [(n, [.b (.iz k x.2.1 x.2.1.length)])])
  | .slr j, x => ([.ad x.1], [(n, [.f j x.2.1 x.2.1.length])])
  | .int _, _ => ([], [])
  | .boo, _ => ([], [])
  | .arr _ _, _ => ([], [])
  | .rcs _ _, _ => ([], [])
  | .str, _ => ([], [])
  | .any, _ => ([], [])
  | .ptr k m, x => ([.bk x.1], [(n, [.b (.iz k x.2 m)])])
def csSg : (l : List Cm) → CsT FM l → Nat → Ce FM
  | [], _, _ => []
  | c :: r, x, n => c.sg n x.1 :: csSg r x.2 (n + (c.bd n x.1).1.length)
def csBd : (l : List Cm) → CsT FM l → Nat → Bd FM
  | [], _, _ => ([], [])
  | c :: r, x, n => ((c.bd n x.1).1 ++ (csBd r x.2 (n + (c.bd n x.1).1.length)).1, (c.bd n x.1).2 ++ (csBd r x.2 (n + (c.bd n x.1).1.length)).2)
def tvOf : Sg FM → TV FM
  | .b (.cl x) => .v (.one x)
  | s => .v (.ag [s])
def Arg.tv (n : Nat) : (a : Arg) → a.T FM → TV FM
  | .one c, x => tvOf (c.sg n x)
  | .ag l, x => .v (.ag (csSg l x n))
def Arg.bd (n : Nat) : (a : Arg) → a.T FM → Bd FM
  | .one c, x => c.bd n x
  | .ag l, x => csBd l x n
def sgTv : (l : List Arg) → SgT FM l → Nat → List (TV FM)
  | [], _, _ => []
  | a :: r, x, n => a.tv n x.1 :: sgTv r x.2 (n + (a.bd n x.1).1.length)
def sgBd : (l : List Arg) → SgT FM l → Nat → Bd FM
  | [], _, _ => ([], [])
  | a :: r, x, n => ((a.bd n x.1).1 ++ (sgBd r x.2 (n + (a.bd n x.1).1.length)).1, (a.bd n x.1).2 ++ (sgBd r x.2 (n + (a.bd n x.1).1.length)).2)

/-- What is known of the data that come in. -/
def Cm.hy : (c : Cm) → c.T FM → List Prop
  | .arr _ n, l => [List.length (α := Int) l = n]
  | .rcs j n, l => [List.length (α := (FM j).α) l = n, ∀ a, List.Mem (α := (FM j).α) a l → (FM j).wf a]
  | .slr j, x => [∀ a ∈ x.2.1, (FM j).wf a]
  | .int _, _ => []
  | .boo, _ => []
  | .sli _, x => [x.1.isNone = true → x.2.1 = []]
  | .str, _ => []
  | .any, v => [(plain v) = true]
  | .ptr _ m, x => [List.length (α := Int) x.2 = m]
def csHy : (l : List Cm) → CsT FM l → List Prop
  | [], _ => []
  | c :: r, x => c.hy x.1 ++ csHy r x.2
def sgHy : (l : List Arg) → SgT FM l → List Prop
  | [], _ => []
  | .one c :: r, x => Cm.hy c x.1 ++ sgHy r x.2
  | .ag l :: r, x => csHy l x.1 ++ sgHy r x.2

/-- What a function answers: existential data, new memory, and what is known. -/
structure PS (FM : Nat → Fm) where
  Y : Type
  E : Y → List Ad
  ret : Y → TV FM
  m : Y → List (Pc FM)
  fact : Y → List Prop
def PS.R (p : PS FM) (M : Nat → Prop) (w : World) : Ending → World → Prop := fun e w' =>
  ∃ y, e = .returned ((p.ret y).den (p.E y)) ∧ (p.ret y).wf ∧ mwf (p.m y) ∧ Hp M w w' (mden (p.E y) (p.m y)) ∧ All (p.fact y)

structure Con (P : Program) (FM : Nat → Fm) where
  f : FuncId
  sig : List Arg
  pre : SgT FM sig → List Prop
  post : SgT FM sig → PS FM
  ok : ∀ (w : World) (x : SgT FM sig), All (sgHy sig x) → ROk (sgBd sig x 0).1 w (sgBd sig x 0).2 → All (pre x) →
    Calls P f ((sgTv sig x 0).map (TV.den (sgBd sig x 0).1)).toArray w ((post x).R no w)

/-! ### A caller's state -/
/-- The cells of a slice at hand. -/
def arC (S : SS FM) (id o n : Nat) (t : Bool) (sz : Nat) : Option (Ce FM × List Prop) :=
  bif isbk S.E id then
    match pcAt S.m id with
    | some (_, p) => bif Nat.beq o 0 && !t then some (p.ce, []) else (csub p.ce o (n * sz)).map fun c => (c, [])
    | none => match rAt S.R id with
      | some d => bif Nat.beq o 0 && !t then some (d, []) else (csub d o (n * sz)).map fun c => (c, [])
      | none => none
  else bif Nat.beq o 0 then (rdOf S.m S.V S.R 9 id).bind fun (c, φs) => bif t then (vcut c 0 n sz).map fun (r, m) => (r, (0 + n ≤ m) :: φs) else some (c, φs)
  else none

/-- Cells of the call's own as parts of records: what stands in a slice is told. -/
def dcOf (S : SS FM) : Ce FM → Option (List DC × List Prop)
  | [] => some ([], [])
  | .b (.cl (.xv (.slice none 0 0))) :: c => (dcOf S c).map fun (r, φ) => (.d none .u8 [] 0 :: r, φ)
  | .b (.cl (.sc id o n cap t)) :: c => match arC S id o n t 1, dcOf S c with
    | some ([.b (.iz k l m)], φ), some (r, ψ) => some (.d (bas S.E id o) k l cap :: r, (n = m) :: (φ ++ ψ))
    | _, _ => none
  | .b s :: c => bif s.ok 0 then (dcOf S c).map fun (r, φ) => (.c s :: r, φ) else none
  | .f .. :: _ => none
/-- Records of them. -/
def dchk (F : Fm) : Nat → List DC → Option (List F.α)
  | _, [] => some []
  | 0, _ => none
  | f + 1, l => match F.ofD (l.take (F.sg F.d).length) with
    | some a => (dchk F f (l.drop (F.sg F.d).length)).map (a :: ·)
    | none => none
/-- Rows of records whose slices are known to stand: out of pieces, out of what was handed in. -/
def dsAll : List (Pc FM) → List (Ce FM)
  | [] => []
  | .fz _ ds :: m => ds ++ dsAll m
  | _ :: m => dsAll m
def dsR : List (Nat × Ce FM) → List (Ce FM)
  | [] => []
  | (_, c) :: r => c :: dsR r
theorem dsOk_app {w : World} : ∀ {a b : List (Ce FM)}, dsOk w a → dsOk w b → dsOk w (a ++ b)
  | [], _, _, h => h
  | _ :: _, _, h, k => ⟨h.1, dsOk_app h.2 k⟩
theorem dsAll_ok {M : Nat → Prop} {w0 w : World} {E : List Ad} : ∀ {m : List (Pc FM)}, Hp M w0 w (mden E m) → dsOk w (dsAll m)
  | [], _ => trivial
  | p :: m, H => by
    have rec_ : dsOk w (dsAll m) := dsAll_ok (H.sub (List.sublist_cons_self _ _))
    cases p with
    | fz rs ds => exact dsOk_app (H.pr 0 rfl).2 rec_
    | _ => exact rec_
theorem dsR_ok {E : List Ad} {w : World} : ∀ {r : List (Nat × Ce FM)}, ROk E w r → dsOk w (dsR r)
  | [], _ => trivial
  | (_, _) :: _, h => ⟨h.1.2, dsR_ok h.2⟩
/-- A row of records of a form. -/
def rowJ (j : Nat) : Ce FM → Option (List (FM j).α × Nat)
  | [.f j' l m] => if h : j' = j then some (h ▸ l, m) else none
  | _ => none
theorem rowJ_spec {j : Nat} {c : Ce FM} {l : List (FM j).α} {m : Nat} (h : rowJ j c = some (l, m)) : c = [.f j l m] := by
  unfold rowJ at h
  split at h
  · split at h
    · rename_i e
      subst e
      simp only [Option.some.injEq, Prod.mk.injEq] at h
      obtain ⟨rfl, rfl⟩ := h; rfl
    · cases h
  · cases h
/-- The records of a deep slice at hand. -/
def arD (S : SS FM) (j id o n : Nat) (t : Bool) : Option (List (FM j).α × List Prop) :=
  bif Nat.beq o 0 then match rdR S.V S.R 9 id with
    | some (c, φs) => match (bif t then (vcut c 0 n (FM j).sz).map fun (r, m) => (r, (0 + n ≤ m) :: φs) else some (c, φs)) with
      | some ([.f j' l m], ψ) => if h : j' = j then some (h ▸ l, (n = m) :: ψ) else none
      | _ => none
    | none => match pcAt S.m id with
      | some (_, .sl _ n0 _ c _ _) => match rowJ j c with
        | some (l, m) => bif t then some (l.take n, [n ≤ m, ∀ a ∈ l.take n, memL a (dsJ j (dsAll S.m ++ dsR S.R))]) else some (l, [n = m, ∀ a ∈ l, memL a (dsJ j (dsAll S.m ++ dsR S.R))])
        | none => bif t then none else (dcOf S c).bind fun (ds, φ) => (dchk (FM j) (ds.length + 1) ds).map fun l => (l, (n = n0) :: (n = l.length) :: φ)
      | _ => none
  else none
def Cm.mch (S : SS FM) : (c : Cm) → Sg FM → Option (c.T FM × List Prop)
  | .int k, .b (.cl (.xv (.int k' x))) => bif decide (k = k') then some (x, []) else none
  | .boo, .b (.cl (.xv (.bool x))) => some (x, [])
  | .boo, .b (.cl (.kb x)) => some (x, [])
  | .arr k n, .b (.iz k' l n') => bif decide (k = k') && Nat.beq n n' then some (l, []) else none
  | .rcs j n, .f j' l n' => if h : j' = j then (bif Nat.beq n n' then some (h ▸ l, []) else none) else none
  | .sli k, .b (.cl (.xv (.slice none 0 0))) => some ((none, [], 0), [])
  | .sli k, .b (.cl (.sc id o n cap t)) => (arC S id o n t 1).bind fun (c, φs) => match c with
    | [.b (.iz k' l m)] => bif decide (k = k') then some ((bas S.E id o, l, cap), (n = m) :: φs) else none
    | _ => none
  | .slr j, .b (.cl (.xv (.slice none 0 0))) => some ((none, [], 0), [])
  | .slr j, .b (.cl (.sc id o n cap t)) => bif (FM j).deep then (arD S j id o n t).map fun (l, φs) => ((bas S.E id o, l, cap), φs) else (arC S id o n t (FM j).sz).bind fun (c, φs) => match c with
    | [.f j' l m] => if h : j' = j then some ((bas S.E id o, h ▸ l, cap), (n = m) :: φs) else none
    | _ => none
  | .str, .b (.cl (.st l)) => some (l, [])
  | .ptr k m, .b (.cl (.pt id 0)) => bif isbk S.E id then (rdOf S.m S.V S.R 9 id).bind fun (c, φs) => match c with
    | [.b (.iz k' l m')] => bif decide (k = k') && Nat.beq m m' then some ((bno S.E id, l), φs) else none
    | _ => none else none
  | .any, .b (.cl x) => bif plain (x.den S.E) then some (x.den S.E, []) else none
  | _, _ => none
def csMch (S : SS FM) : (l : List Cm) → Ce FM → Option (CsT FM l × List Prop)
  | [], [] => some ((), [])
  | c :: r, s :: d => match c.mch S s, csMch S r d with
    | some (x, φ), some (y, ψ) => some ((x, y), φ ++ ψ)
    | _, _ => none
  | _, _ => none
def Arg.mch (S : SS FM) : (a : Arg) → TV FM → Option (a.T FM × List Prop)
  | .one c, .v (.one x) => c.mch S (.b (.cl x))
  | .ag l, .v (.ag d) => csMch S l d
  | _, _ => none
def sgMch (S : SS FM) : (l : List Arg) → List (TV FM) → Option (SgT FM l × List Prop)
  | [], [] => some ((), [])
  | a :: r, v :: d => match a.mch S v, sgMch S r d with
    | some (x, φ), some (y, ψ) => some ((x, y), φ ++ ψ)
    | _, _ => none
  | _, _ => none

theorem Rd.sub {w : World} {b o n : Nat} {cs : List Value} (h : Rd w (some ⟨b, 0, none⟩) cs) (ho : o + n ≤ cs.length) : Rd w (some ⟨b, o, none⟩) ((cs.drop o).take n) := by
  rcases h with hr | ⟨b', off, blk, T, fr, hA, hb', hcc⟩
  · left; rw [hr]; simp
  · simp only [Option.some.injEq, Addr.mk.injEq] at hA
    obtain ⟨rfl, rfl, -⟩ := hA
    refine .inr ⟨_, o, blk, T, fr, rfl, hb', fun j hj => ?_⟩
    simp only [List.length_take, List.length_drop] at hj
    rw [List.getElem?_take, if_pos (by omega), List.getElem?_drop]
    have := hcc (o + j) (by omega)
    rw [Nat.zero_add] at this
    exact this
theorem arC_spec {S : SS FM} (hS : S.WF) {M : Nat → Prop} {w0 w : World} (H : HS M w0 w S) {id o n sz : Nat} {t : Bool} {c : Ce FM} {φs : List Prop} (h : arC S id o n t sz = some (c, φs)) (hφ : All φs) :
    Rd w (bas S.E id o) (cden S.E c) ∧ cwf c := by
  unfold arC at h
  simp only [cond_eq_ite] at h
  split at h
  · rename_i hb
    have main : ∀ {d : Ce FM}, Rd w (bas S.E id 0) (cden S.E d) → cwf d → cok S.E.length d = true → (if (Nat.beq o 0 && !t) = true then some (d, []) else (csub d o (n * sz)).map fun c => (c, [])) = some (c, φs) → Rd w (bas S.E id o) (cden S.E c) ∧ cwf c := by
      intro d hr hw hl hz
      split at hz
      · rename_i hc
        rw [Bool.and_eq_true] at hc
        have := beq_n hc.1; subst this
        simp only [Option.some.injEq, Prod.mk.injEq] at hz
        obtain ⟨rfl, rfl⟩ := hz
        exact ⟨hr, hw⟩
      · obtain ⟨r, hr', hz⟩ := Option.map_eq_some_iff.1 hz
        simp only [Prod.mk.injEq] at hz
        obtain ⟨rfl, rfl⟩ := hz
        obtain ⟨g1, g2, g3, g4, g5⟩ := csub_spec (E := S.E) hr' hw hl
        refine ⟨?_, g2⟩
        rw [bas_bk hb] at hr ⊢
        rw [← g1]
        exact hr.sub (by rw [clen hw]; exact g5)
    split at h
    · rename_i k p hp
      obtain ⟨h1, h2, h3⟩ := pcAt_spec (E := S.E) hp
      have hr := pc_rd H.hp hS.b hp
      have hw : cwf p.ce := by have := mwf_at hS.m h1; cases p <;> first | exact this | trivial
      have hl : cok S.E.length p.ce = true := by
        have hl := mlt_at hS.ml h1
        cases p with
        | bk id c ty => have hl : (Nat.blt id S.E.length && cok S.E.length c) = true := hl; simp only [Bool.and_eq_true] at hl; exact hl.2
        | sl id n cap c e s => have hl : (Nat.blt id S.E.length && cok S.E.length c) = true := hl; simp only [Bool.and_eq_true] at hl; exact hl.2
        | rd id c => have hl : (Nat.blt id S.E.length && cok S.E.length c) = true := hl; simp only [Bool.and_eq_true] at hl; exact hl.2
        | pr φ => rfl
        | lp id r st pd => rfl
        | mk id b => rfl
        | mp id n l => rfl
        | fz rs ds => rfl
      exact main hr hw hl h
    · split at h
      · rename_i d hd
        obtain ⟨⟨q1, -⟩, q2, q3⟩ := rAt_spec hd H.rd hS.r
        exact main q1 q2 q3 h
      · cases h
  · split at h
    · rename_i hb ho
      have := beq_n ho; subst this
      obtain ⟨⟨c', φ'⟩, hc, h⟩ := Option.bind_eq_some_iff.1 h
      simp only at h
      split at h
      · obtain ⟨⟨r, m⟩, hr, h⟩ := Option.map_eq_some_iff.1 h
        simp only [Prod.mk.injEq] at h
        obtain ⟨rfl, rfl⟩ := h
        obtain ⟨q1, q2, q3⟩ := rdOf_spec hS H hc hφ.2
        obtain ⟨g1, g2, g3⟩ := vcut_spec (E := S.E) (N := S.E.length) hr q2 hφ.1
        refine ⟨?_, g2⟩
        rw [Nat.zero_mul, List.drop_zero] at g1
        rw [← g1]
        have e : cden S.E c' = (cden S.E c').take (n * sz) ++ (cden S.E c').drop (n * sz) := (List.take_append_drop _ _).symm
        rw [e] at q1
        exact q1.left
      · simp only [Option.some.injEq, Prod.mk.injEq] at h
        obtain ⟨rfl, rfl⟩ := h
        obtain ⟨q1, q2, q3⟩ := rdOf_spec hS H hc hφ
        exact ⟨q1, q2⟩
    · cases h

theorem bas_at {E0 X : List Ad} {A : Option Addr} {o : Nat} : bas (E0 ++ (.ad A :: X)) E0.length o = A := by
  unfold bas; simp

theorem dcOf_spec {S : SS FM} (hS : S.WF) {M : Nat → Prop} {w0 w : World} (H : HS M w0 w S) : ∀ {c : Ce FM} {ds : List DC} {φ : List Prop}, dcOf S c = some (ds, φ) → All φ → cwf c → dcden ds = cden S.E c ∧ dcwf ds ∧ ∀ A k l cap, DC.d A k l cap ∈ ds → Rd w A (iv k l)
  | [], ds, φ, h, _, _ => by
    simp only [dcOf, Option.some.injEq, Prod.mk.injEq] at h
    obtain ⟨rfl, rfl⟩ := h
    exact ⟨rfl, trivial, by simp⟩
  | .f .. :: _, _, _, h, _, _ => by simp [dcOf] at h
  | .b s :: c, ds, φ, h, hφ, hw => by
    unfold dcOf at h
    split at h
    · rename_i e; cases e
    · rename_i c1 e
      simp only [List.cons.injEq, Sg.b.injEq] at e
      obtain ⟨rfl, rfl⟩ := e
      obtain ⟨⟨r, ψ⟩, hr, h⟩ := Option.map_eq_some_iff.1 h
      simp only [Prod.mk.injEq] at h
      obtain ⟨rfl, rfl⟩ := h
      obtain ⟨g1, g2, g3⟩ := dcOf_spec hS H hr hφ hw.2
      refine ⟨by simp only [dcden, DC.den, cden, Sg.den, Sg0.den, S0.den, g1]; rfl, g2, fun A k l cap hm => ?_⟩
      rcases List.mem_cons.1 hm with e | hm
      · simp only [DC.d.injEq] at e
        obtain ⟨rfl, rfl, rfl, rfl⟩ := e
        exact Rd.nil _ _
      · exact g3 A k l cap hm
    · rename_i id o n cap t c1 e
      simp only [List.cons.injEq, Sg.b.injEq] at e
      obtain ⟨rfl, rfl⟩ := e
      split at h
      · rename_i k l m φ' r ψ ha hr
        simp only [Option.some.injEq, Prod.mk.injEq] at h
        obtain ⟨rfl, rfl⟩ := h
        obtain ⟨hn, hφ⟩ := hφ
        obtain ⟨h1, h2⟩ := All_append.1 hφ
        obtain ⟨q1, q2⟩ := arC_spec hS H ha h1
        have hl : l.length = m := q2.1
        obtain ⟨g1, g2, g3⟩ := dcOf_spec hS H hr h2 hw.2
        refine ⟨by simp only [dcden, DC.den, cden, Sg.den, Sg0.den, S0.den, g1, hl, hn], g2, fun A k' l' cap' hm => ?_⟩
        rcases List.mem_cons.1 hm with e | hm
        · simp only [DC.d.injEq] at e
          obtain ⟨rfl, rfl, rfl, rfl⟩ := e
          simpa [cden, Sg.den, Sg0.den] using q1
        · exact g3 A k' l' cap' hm
      · cases h
    · rename_i s1 c1 _ _ e
      simp only [List.cons.injEq, Sg.b.injEq] at e
      obtain ⟨rfl, rfl⟩ := e
      simp only [cond_eq_ite] at h
      split at h
      · rename_i hk
        obtain ⟨⟨r, ψ⟩, hr, h⟩ := Option.map_eq_some_iff.1 h
        simp only [Prod.mk.injEq] at h
        obtain ⟨rfl, rfl⟩ := h
        obtain ⟨g1, g2, g3⟩ := dcOf_spec hS H hr hφ hw.2
        have e0 := Sg0.ext (E := []) (X := S.E) hk
        rw [List.nil_append] at e0
        refine ⟨by simp only [dcden, DC.den, cden, Sg.den, g1, e0], ⟨hw.1, g2⟩, fun A k l cap hm => ?_⟩
        rcases List.mem_cons.1 hm with e | hm
        · cases e
        · exact g3 A k l cap hm
      · cases h
    · rename_i e; cases e
theorem dcden_append : ∀ (a b : List DC), dcden (a ++ b) = dcden a ++ dcden b
  | [], b => rfl
  | x :: a, b => by simp [dcden, dcden_append a b]
theorem dcwf_append : ∀ {a b : List DC}, dcwf (a ++ b) → dcwf a ∧ dcwf b
  | [], b, h => ⟨trivial, h⟩
  | .c s :: a, b, h => by
    obtain ⟨h1, h2⟩ := h
    obtain ⟨g1, g2⟩ := dcwf_append (a := a) h2
    exact ⟨⟨h1, g1⟩, g2⟩
  | .d .. :: a, b, h => dcwf_append (a := a) h
theorem dchk_spec {F : Fm} {w : World} : ∀ {f : Nat} {ds : List DC} {l : List F.α}, dchk F f ds = some l → dcwf ds → (∀ A k l cap, DC.d A k l cap ∈ ds → Rd w A (iv k l)) → dcden ds = fden F l ∧ ∀ a ∈ l, F.wf a ∧ fmRd F w a
  | f, [], l, h, _, _ => by
    have h : some ([] : List F.α) = some l := by cases f <;> exact h
    simp only [Option.some.injEq] at h; subst h
    exact ⟨rfl, by simp⟩
  | 0, _ :: _, _, h, _, _ => by simp [dchk] at h
  | f + 1, x :: ds, l, h, hw, hr => by
    simp only [dchk] at h
    split at h
    · rename_i a ha
      obtain ⟨l', hl, rfl⟩ := Option.map_eq_some_iff.1 h
      have e : x :: ds = (x :: ds).take (F.sg F.d).length ++ (x :: ds).drop (F.sg F.d).length := (List.take_append_drop _ _).symm
      generalize hp : (x :: ds).take (F.sg F.d).length = p at ha e
      generalize hq : (x :: ds).drop (F.sg F.d).length = q at hl e
      rw [e] at hw hr
      obtain ⟨w1, w2⟩ := dcwf_append hw
      obtain ⟨o1, o2, o3⟩ := F.hofD _ _ ha
      obtain ⟨g1, g2⟩ := dchk_spec (w := w) hl w2 fun A k l cap hm => hr A k l cap (List.mem_append.2 (.inr hm))
      refine ⟨by rw [e, dcden_append, o1, g1]; rfl, fun b hb => ?_⟩
      rcases List.mem_cons.1 hb with rfl | hb
      · refine ⟨o2 w1, fun o A k l hi => ?_⟩
        obtain ⟨cap, hm⟩ := o3 o A k l hi
        exact hr A k l cap (List.mem_append.2 (.inl hm))
      · exact g2 b hb
    · cases h
theorem arD_spec {S : SS FM} (hS : S.WF) {M : Nat → Prop} {w0 w : World} (H : HS M w0 w S) {j id o n : Nat} {t : Bool} {l : List (FM j).α} {φs : List Prop} (h : arD S j id o n t = some (l, φs)) (hφ : All φs) :
    Rd w (bas S.E id o) (fden (FM j) l) ∧ (∀ a ∈ l, fmRd (FM j) w a) ∧ l.length = n ∧ ∀ a ∈ l, (FM j).wf a := by
  unfold arD at h
  simp only [cond_eq_ite] at h
  split at h
  · rename_i ho
    have := beq_n ho; subst this
    split at h
    · rename_i c φ' hc
      split at h
      · rename_i j' l' m ψ hv
        split at h
        · rename_i hj; subst hj
          simp only [Option.some.injEq, Prod.mk.injEq] at h
          obtain ⟨rfl, rfl⟩ := h
          obtain ⟨rfl, hφ⟩ := hφ
          cases t with
          | false =>
            simp only [cond_false, Option.some.injEq, Prod.mk.injEq, Bool.false_eq_true, if_false] at hv
            obtain ⟨rfl, rfl⟩ := hv
            obtain ⟨⟨q1, q4⟩, q2, q3⟩ := rdR_spec hS.v hS.r H.rd hc hφ
            exact ⟨by simpa [cden, Sg.den] using q1, q4.1, q2.1.1, q2.1.2⟩
          | true =>
            simp only [cond_true, if_true] at hv
            obtain ⟨⟨r, m'⟩, hr, hv⟩ := Option.map_eq_some_iff.1 hv
            simp only [Prod.mk.injEq] at hv
            obtain ⟨rfl, rfl⟩ := hv
            obtain ⟨⟨q1, q4⟩, q2, q3⟩ := rdR_spec hS.v hS.r H.rd hc hφ.2
            obtain ⟨g1, g2, g3⟩ := vcut_spec (E := S.E) (N := S.E.length) hr q2 hφ.1
            refine ⟨?_, (dRd_cut hr q4).1, g2.1.1, g2.1.2⟩
            rw [Nat.zero_mul, List.drop_zero] at g1
            have g1 : (cden S.E c).take (n * (FM j').sz) = fden (FM j') l' := by simpa [cden, Sg.den] using g1
            rw [← g1]
            have e : cden S.E c = (cden S.E c).take (n * (FM j').sz) ++ (cden S.E c).drop (n * (FM j').sz) := (List.take_append_drop _ _).symm
            rw [e] at q1
            exact q1.left
        · cases h
      · cases h
    · split at h
      · rename_i k id' n0 q c e s hp
        obtain ⟨p1, p2, p3⟩ := pcAt_spec (E := S.E) hp
        have hr := pc_rd H.hp hS.b hp
        have hwc : cwf c := mwf_at hS.m p1
        have hds : dsOk w (dsAll S.m ++ dsR S.R) := dsOk_app (dsAll_ok H.hp) (dsR_ok H.rd)
        split at h
        · rename_i l' m hj
          have := rowJ_spec hj; subst this
          have hr2 : Rd w (bas S.E id 0) (fden (FM j) l') := by simpa [Pc.ce, cden, Sg.den] using hr
          have hl : l'.length = m := hwc.1.1
          split at h
          · simp only [Option.some.injEq, Prod.mk.injEq] at h
            obtain ⟨rfl, rfl⟩ := h
            obtain ⟨h1, h2, -⟩ := hφ
            refine ⟨?_, fun a ha => memL_spec (h2 a ha) hds, by simp; omega, fun a ha => hwc.1.2 a (List.mem_of_mem_take ha)⟩
            have e : fden (FM j) l' = fden (FM j) (l'.take n) ++ fden (FM j) (l'.drop n) := by rw [← fden_append, List.take_append_drop]
            rw [e] at hr2
            exact hr2.left
          · simp only [Option.some.injEq, Prod.mk.injEq] at h
            obtain ⟨rfl, rfl⟩ := h
            obtain ⟨rfl, h2, -⟩ := hφ
            exact ⟨hr2, fun a ha => memL_spec (h2 a ha) hds, hl, hwc.1.2⟩
        split at h
        · cases h
        · obtain ⟨⟨ds, φ'⟩, hd, h⟩ := Option.bind_eq_some_iff.1 h
          obtain ⟨l', hl, h⟩ := Option.map_eq_some_iff.1 h
          simp only [Prod.mk.injEq] at h
          obtain ⟨rfl, rfl⟩ := h
          obtain ⟨rfl, h2, h3⟩ := hφ
          obtain ⟨d1, d2, d3⟩ := dcOf_spec hS H hd h3 (mwf_at hS.m p1)
          obtain ⟨g1, g2⟩ := dchk_spec hl d2 d3
          refine ⟨?_, fun a ha => (g2 a ha).2, h2.symm, fun a ha => (g2 a ha).1⟩
          rw [← g1, d1]
          exact hr
      · cases h
  · cases h
/-- A part that is matched: the same value, the same memory. -/
theorem Cm.mch_spec {S : SS FM} (hS : S.WF) {M : Nat → Prop} {w0 w : World} (H : HS M w0 w S) {c : Cm} {s : Sg FM} {x : c.T FM} {φs : List Prop} (h : c.mch S s = some (x, φs)) (hφ : All φs) (hw : s.wf) (hk : s.ok S.E.length = true) (E0 X : List Ad) :
    (c.sg E0.length x).den (E0 ++ ((c.bd E0.length x).1 ++ X)) = s.den S.E ∧ ROk (E0 ++ ((c.bd E0.length x).1 ++ X)) w (c.bd E0.length x).2 ∧ All (c.hy x) ∧ rwf (E0.length + (c.bd E0.length x).1.length) (c.bd E0.length x).2 ∧ (c.sg E0.length x).wf := by
  unfold Cm.mch at h
  split at h
  · simp only [cond_eq_ite] at h
    split at h
    · rename_i hk
      have := of_decide_eq_true hk; subst this
      simp only [Option.some.injEq, Prod.mk.injEq] at h
      obtain ⟨rfl, rfl⟩ := h
      exact ⟨rfl, trivial, trivial, trivial, trivial⟩
    · cases h
  · simp only [Option.some.injEq, Prod.mk.injEq] at h
    obtain ⟨rfl, rfl⟩ := h
    exact ⟨rfl, trivial, trivial, trivial, trivial⟩
  · simp only [Option.some.injEq, Prod.mk.injEq] at h
    obtain ⟨rfl, rfl⟩ := h
    exact ⟨rfl, trivial, trivial, trivial, trivial⟩
  · simp only [cond_eq_ite] at h
    split at h
    · rename_i hk
      simp only [Bool.and_eq_true, decide_eq_true_eq] at hk
      obtain ⟨rfl, hn⟩ := hk
      have := beq_n hn; subst this
      simp only [Option.some.injEq, Prod.mk.injEq] at h
      obtain ⟨rfl, rfl⟩ := h
      exact ⟨rfl, trivial, ⟨hw, trivial⟩, trivial, hw⟩
    · cases h
  · split at h
    · rename_i hj; subst hj
      simp only [cond_eq_ite] at h
      split at h
      · rename_i hn
        have := beq_n hn; subst this
        simp only [Option.some.injEq, Prod.mk.injEq] at h
        obtain ⟨rfl, rfl⟩ := h
        exact ⟨rfl, trivial, ⟨hw.1, hw.2, trivial⟩, trivial, hw⟩
      · cases h
    · cases h
  · simp only [Option.some.injEq, Prod.mk.injEq] at h
    obtain ⟨rfl, rfl⟩ := h
    refine ⟨?_, ⟨⟨Rd.nil _ _, trivial⟩, trivial⟩, ⟨fun _ => rfl, trivial⟩, ⟨⟨Nat.blt_eq.mpr (by simp [Cm.bd]), ⟨rfl, trivial⟩, rfl⟩, trivial⟩, trivial⟩
    simp only [Cm.sg, Sg.den, Sg0.den, S0.den, Cm.bd, List.cons_append, List.nil_append, bas_at]
    rfl
  · obtain ⟨⟨c', φ'⟩, hc, h⟩ := Option.bind_eq_some_iff.1 h
    simp only at h
    split at h
    · rename_i k' l m
      simp only [cond_eq_ite] at h
      split at h
      · rename_i hk
        have := of_decide_eq_true hk; subst this
        simp only [Option.some.injEq, Prod.mk.injEq] at h
        obtain ⟨rfl, rfl⟩ := h
        obtain ⟨rfl, hφ⟩ := hφ
        obtain ⟨q1, q2⟩ := arC_spec hS H hc hφ
        have hl : l.length = _ := q2.1
        refine ⟨?_, ⟨⟨?_, trivial⟩, trivial⟩, ⟨fun hA => ?_, trivial⟩, ⟨⟨Nat.blt_eq.mpr (by simp [Cm.bd]), ⟨rfl, trivial⟩, rfl⟩, trivial⟩, trivial⟩
        · simp only [Cm.sg, Sg.den, Sg0.den, S0.den, Cm.bd, List.cons_append, List.nil_append, bas_at, hl]
        · simp only [Cm.bd, List.cons_append, List.nil_append, bas_at]
          exact q1
        · have hA := Option.isNone_iff_eq_none.1 hA
          simp only at hA
          rw [hA] at q1
          have := q1.none_nil
          simpa [cden, Sg.den, Sg0.den, iv] using this
      · cases h
    · cases h
  · simp only [Option.some.injEq, Prod.mk.injEq] at h
    obtain ⟨rfl, rfl⟩ := h
    refine ⟨?_, ⟨⟨Rd.nil _ _, by simp [Cm.bd, dRd]⟩, trivial⟩, ⟨by simp, trivial⟩, ⟨⟨Nat.blt_eq.mpr (by simp [Cm.bd]), ⟨⟨rfl, by simp⟩, trivial⟩, rfl⟩, trivial⟩, trivial⟩
    simp only [Cm.sg, Sg.den, Sg0.den, S0.den, Cm.bd, List.cons_append, List.nil_append, bas_at]
    rfl
  · simp only [cond_eq_ite] at h
    split at h
    · obtain ⟨⟨l, φ'⟩, hc, h⟩ := Option.map_eq_some_iff.1 h
      simp only [Prod.mk.injEq] at h
      obtain ⟨rfl, rfl⟩ := h
      obtain ⟨q1, q2, hl, hwf⟩ := arD_spec hS H hc hφ
      refine ⟨?_, ⟨⟨?_, q2, trivial⟩, trivial⟩, ⟨hwf, trivial⟩, ⟨⟨Nat.blt_eq.mpr (by simp [Cm.bd]), ⟨⟨rfl, hwf⟩, trivial⟩, rfl⟩, trivial⟩, trivial⟩
      · simp only [Cm.sg, Sg.den, Sg0.den, S0.den, Cm.bd, List.cons_append, List.nil_append, bas_at, hl]
      · simp only [Cm.bd, List.cons_append, List.nil_append, bas_at, cden, Sg.den, List.append_nil]
        exact q1
    rename_i hdeep
    obtain ⟨⟨c', φ'⟩, hc, h⟩ := Option.bind_eq_some_iff.1 h
    simp only at h
    split at h
    · rename_i j' l m
      split at h
      · rename_i hj; subst hj
        simp only [Option.some.injEq, Prod.mk.injEq] at h
        obtain ⟨rfl, rfl⟩ := h
        obtain ⟨rfl, hφ⟩ := hφ
        obtain ⟨q1, q2⟩ := arC_spec hS H hc hφ
        obtain ⟨hl, hwf⟩ := q2.1
        have hflat : (FM j').deep = false := by simpa using hdeep
        refine ⟨?_, ⟨⟨?_, fun a _ => fmRd.flat hflat w a, trivial⟩, trivial⟩, ⟨hwf, trivial⟩, ⟨⟨Nat.blt_eq.mpr (by simp [Cm.bd]), ⟨⟨rfl, hwf⟩, trivial⟩, rfl⟩, trivial⟩, trivial⟩
        · simp only [Cm.sg, Sg.den, Sg0.den, S0.den, Cm.bd, List.cons_append, List.nil_append, bas_at, hl]
        · simp only [Cm.bd, List.cons_append, List.nil_append, bas_at]
          exact q1
      · cases h
    · cases h
  · simp only [Option.some.injEq, Prod.mk.injEq] at h
    obtain ⟨rfl, rfl⟩ := h
    exact ⟨rfl, trivial, trivial, trivial, trivial⟩
  · simp only [cond_eq_ite] at h
    split at h
    · rename_i hb
      obtain ⟨⟨c', φ'⟩, hc, h⟩ := Option.bind_eq_some_iff.1 h
      simp only at h
      split at h
      · rename_i k' l m
        split at h
        · rename_i hk
          simp only [Bool.and_eq_true, decide_eq_true_eq] at hk
          obtain ⟨rfl, hn⟩ := hk
          have := beq_n hn; subst this
          simp only [Option.some.injEq, Prod.mk.injEq] at h
          obtain ⟨rfl, rfl⟩ := h
          obtain ⟨q1, q2, q3⟩ := rdOf_spec hS H hc hφ
          have hl : l.length = _ := q2.1
          have hi : ∀ b, isbk (E0 ++ (.bk b :: X)) E0.length = true := fun b => by unfold isbk; simp
          have hb2 : ∀ b, bno (E0 ++ (.bk b :: X)) E0.length = b := fun b => by unfold bno; simp
          refine ⟨?_, ⟨⟨?_, trivial⟩, trivial⟩, ⟨hl, trivial⟩, ⟨⟨Nat.blt_eq.mpr (by simp [Cm.bd]), ⟨hl, trivial⟩, rfl⟩, trivial⟩, trivial⟩
          · simp only [Cm.sg, Sg.den, Sg0.den, S0.den, Cm.bd, List.cons_append, List.nil_append, plc_bk (hi _), plc_bk hb, hb2]
          · simp only [Cm.bd, List.cons_append, List.nil_append, bas_bk (hi _), hb2]
            rw [bas_bk hb] at q1
            exact q1
        · cases h
      · cases h
    · cases h
  · simp only [cond_eq_ite] at h
    split at h
    · rename_i hp
      simp only [Option.some.injEq, Prod.mk.injEq] at h
      obtain ⟨rfl, rfl⟩ := h
      exact ⟨rfl, trivial, ⟨hp, trivial⟩, trivial, trivial⟩
    · cases h
  · cases h
end
end Go.Px
end
section
/-
  Arguments that are matched; answers put into a caller's state. No condition.
-/
set_option linter.all false
namespace Go.Px
open Go.RowKit

section
variable {FM : Nat → Fm}

theorem rwf_append {N : Nat} : ∀ {a b : List (Nat × Ce FM)}, rwf N (a ++ b) ↔ rwf N a ∧ rwf N b
  | [], b => by simp [rwf]
  | (i, c) :: a, b => by simp [rwf, rwf_append (a := a), and_assoc]
theorem ROk_append {E : List Ad} {w : World} : ∀ {a b : List (Nat × Ce FM)}, ROk E w (a ++ b) ↔ ROk E w a ∧ ROk E w b
  | [], b => by simp [ROk]
  | (i, c) :: a, b => by simp [ROk, ROk_append (a := a), and_assoc]

variable {S : SS FM} (hS : S.WF) {M : Nat → Prop} {w0 w : World} (H : HS M w0 w S)
include hS H

theorem csMch_spec : ∀ {l : List Cm} {d : Ce FM} {x : CsT FM l} {φs : List Prop}, csMch S l d = some (x, φs) → All φs → cwf d → cok S.E.length d = true → ∀ (E0 X : List Ad),
    cden (E0 ++ ((csBd l x E0.length).1 ++ X)) (csSg l x E0.length) = cden S.E d ∧ ROk (E0 ++ ((csBd l x E0.length).1 ++ X)) w (csBd l x E0.length).2 ∧ All (csHy l x) ∧ rwf (E0.length + (csBd l x E0.length).1.length) (csBd l x E0.length).2 ∧ cwf (csSg l x E0.length)
  | [], [], x, φs, h, _, _, _, E0, X => ⟨rfl, trivial, trivial, trivial, trivial⟩
  | c :: r, s :: d, x, φs, h, hφ, hw, hk, E0, X => by
    simp only [csMch] at h
    split at h
    · rename_i y φ z ψ hy hz
      simp only [Option.some.injEq, Prod.mk.injEq] at h
      obtain ⟨rfl, rfl⟩ := h
      obtain ⟨p1, p2⟩ := All_append.1 hφ
      simp only [cok, Bool.and_eq_true] at hk
      have hl : (E0 ++ (c.bd E0.length y).1).length = E0.length + (c.bd E0.length y).1.length := by simp
      obtain ⟨g1, g2, g3, g4, g5⟩ := Cm.mch_spec hS H hy p1 hw.1 hk.1 E0 ((csBd r z (E0.length + (c.bd E0.length y).1.length)).1 ++ X)
      obtain ⟨q1, q2, q3, q4, q5⟩ := csMch_spec hz p2 hw.2 hk.2 (E0 ++ (c.bd E0.length y).1) X
      rw [hl] at q1 q2 q4 q5
      simp only [List.append_assoc] at q1 q2
      refine ⟨?_, ?_, All_append.2 ⟨g3, q3⟩, ?_, ⟨g5, q5⟩⟩
      · simp only [csSg, csBd, cden, List.append_assoc, g1, q1]
      · simp only [csBd, List.append_assoc]
        exact ROk_append.2 ⟨g2, q2⟩
      · simp only [csBd, List.length_append]
        exact rwf_append.2 ⟨rwf_mono (by omega) g4, by rw [← Nat.add_assoc]; exact q4⟩
    · cases h
  | [], _ :: _, _, _, h, _, _, _, _, _ => by simp [csMch] at h
  | _ :: _, [], _, _, h, _, _, _, _, _ => by simp [csMch] at h

theorem argMch_spec {a : Arg} {v : TV FM} {x : a.T FM} {φs : List Prop} (h : a.mch S v = some (x, φs)) (hφ : All φs) (hw : v.wf) (hk : v.lt S.E.length = true) (hp : ∀ y, v = .v (.one y) → y.ok = true) (E0 X : List Ad) :
    (a.tv E0.length x).den (E0 ++ ((a.bd E0.length x).1 ++ X)) = v.den S.E ∧ ROk (E0 ++ ((a.bd E0.length x).1 ++ X)) w (a.bd E0.length x).2 ∧ All (sgHy [a] (x, ())) ∧ rwf (E0.length + (a.bd E0.length x).1.length) (a.bd E0.length x).2 ∧ (a.tv E0.length x).wf := by
  cases a with
  | one c =>
    cases v with
    | v y =>
      cases y with
      | one y =>
        have h : c.mch S (.b (.cl y)) = some (x, φs) := h
        have hk : y.lt S.E.length = true := hk
        obtain ⟨g1, g2, g3, g4, g5⟩ := Cm.mch_spec hS H h hφ trivial (by simp only [Sg.ok, Sg0.ok, hk, hp y rfl, Bool.and_self]) E0 X
        -- a part of one cell is one cell
        have hz : ∃ z, c.sg E0.length x = .b (.cl z) := by
          unfold Cm.mch at h
          cases c <;> first | exact ⟨_, rfl⟩ | exact absurd (show none = some (x, φs) from h) (by intro e; cases e)
        obtain ⟨z, hz⟩ := hz
        refine ⟨?_, g2, by simpa [sgHy] using g3, g4, ?_⟩
        · simp only [Arg.tv, Arg.bd]
          rw [hz] at g1 ⊢
          simp only [tvOf, TV.den, SV.den]
          simpa [Sg.den, Sg0.den] using g1
        · simp only [Arg.tv]
          rw [hz]; trivial
      | ag d => exact absurd (show none = some (x, φs) from h) (by intro e; cases e)
    | tup l => exact absurd (show none = some (x, φs) from h) (by intro e; cases e)
    | fn f a b => exact absurd (show none = some (x, φs) from h) (by intro e; cases e)
  | ag l =>
    cases v with
    | v y =>
      cases y with
      | one y => exact absurd (show none = some (x, φs) from h) (by intro e; cases e)
      | ag d =>
        have h : csMch S l d = some (x, φs) := h
        obtain ⟨g1, g2, g3, g4, g5⟩ := csMch_spec hS H h hφ hw hk E0 X
        exact ⟨by simp only [Arg.tv, Arg.bd, TV.den, SV.den, g1], g2, by simpa [sgHy] using g3, g4, g5⟩
    | tup l => exact absurd (show none = some (x, φs) from h) (by intro e; cases e)
    | fn f a b => exact absurd (show none = some (x, φs) from h) (by intro e; cases e)

def tvs1 : List (TV FM) → Bool
  | [] => true
  | .v (.one y) :: r => y.ok && tvs1 r
  | _ :: r => tvs1 r
def tvswf : List (TV FM) → Prop
  | [] => True
  | v :: r => v.wf ∧ tvswf r
def tvslt (N : Nat) : List (TV FM) → Bool
  | [] => true
  | v :: r => v.lt N && tvslt N r

theorem sgMch_spec : ∀ {l : List Arg} {d : List (TV FM)} {x : SgT FM l} {φs : List Prop}, sgMch S l d = some (x, φs) → All φs → tvswf d → tvslt S.E.length d = true → tvs1 d = true → ∀ (E0 X : List Ad),
    (sgTv l x E0.length).map (TV.den (E0 ++ ((sgBd l x E0.length).1 ++ X))) = d.map (TV.den S.E) ∧ ROk (E0 ++ ((sgBd l x E0.length).1 ++ X)) w (sgBd l x E0.length).2 ∧ All (sgHy l x)
  | [], [], x, φs, h, _, _, _, _, E0, X => ⟨rfl, trivial, trivial⟩
  | a :: r, v :: d, x, φs, h, hφ, hw, hk, h1, E0, X => by
    simp only [sgMch] at h
    split at h
    · rename_i y φ z ψ hy hz
      simp only [Option.some.injEq, Prod.mk.injEq] at h
      obtain ⟨rfl, rfl⟩ := h
      obtain ⟨p1, p2⟩ := All_append.1 hφ
      simp only [tvslt, Bool.and_eq_true] at hk
      have hl : (E0 ++ (a.bd E0.length y).1).length = E0.length + (a.bd E0.length y).1.length := by simp
      have hv1 : ∀ u, v = .v (.one u) → u.ok = true := by
        intro u e; subst e
        simp only [tvs1, Bool.and_eq_true] at h1; exact h1.1
      have hv2 : tvs1 d = true := by
        unfold tvs1 at h1
        split at h1
        · rename_i e; cases e
        · rename_i e
          simp only [List.cons.injEq] at e
          obtain ⟨rfl, rfl⟩ := e
          simp only [Bool.and_eq_true] at h1; exact h1.2
        · rename_i e
          simp only [List.cons.injEq] at e
          obtain ⟨rfl, rfl⟩ := e
          exact h1
      obtain ⟨g1, g2, g3, g4, g5⟩ := argMch_spec hS H hy p1 hw.1 hk.1 hv1 E0 ((sgBd r z (E0.length + (a.bd E0.length y).1.length)).1 ++ X)
      obtain ⟨q1, q2, q3⟩ := sgMch_spec hz p2 hw.2 hk.2 hv2 (E0 ++ (a.bd E0.length y).1) X
      rw [hl] at q1 q2
      simp only [List.append_assoc] at q1 q2
      refine ⟨?_, ?_, ?_⟩
      · simp only [sgTv, sgBd, List.map_cons, List.append_assoc, g1, q1]
      · simp only [sgBd, List.append_assoc]
        exact ROk_append.2 ⟨g2, q2⟩
      · cases a with
        | one c => exact All_append.2 ⟨by simpa [sgHy] using g3, q3⟩
        | ag l => exact All_append.2 ⟨by simpa [sgHy] using g3, q3⟩
    · cases h
  | [], _ :: _, _, _, h, _, _, _, _, _, _ => by simp [sgMch] at h
  | _ :: _, [], _, _, h, _, _, _, _, _, _ => by simp [sgMch] at h
omit hS H

/-! ### Answers -/
def S0.sh (n : Nat) : S0 → S0
  | .xv v => .xv v
  | .kb b => .kb b
  | .st l => .st l
  | .pt id o => .pt (n + id) o
  | .qt id o i s q => .qt (n + id) o i s q
  | .sc id o k c t => .sc (n + id) o k c t
  | .yl id => .yl (n + id)
  | .mv id => .mv (n + id)
def Sg.sh (n : Nat) : Sg FM → Sg FM
  | .b (.cl x) => .b (.cl (x.sh n))
  | s => s
def csh (n : Nat) : Ce FM → Ce FM
  | [] => []
  | s :: c => s.sh n :: csh n c
def SV.sh (n : Nat) : SV FM → SV FM
  | .one x => .one (x.sh n)
  | .ag c => .ag (csh n c)
def svsh (n : Nat) : List (SV FM) → List (SV FM)
  | [] => []
  | x :: l => x.sh n :: svsh n l
def TV.sh (n : Nat) : TV FM → TV FM
  | .v x => .v (x.sh n)
  | .tup l => .tup (svsh n l)
  | .fn f a b => .fn f (svsh n a) (svsh n b)
def rssh (n : Nat) : List (Nat × Ce FM) → List (Nat × Ce FM)
  | [] => []
  | (id, c) :: r => (n + id, csh n c) :: rssh n r
def Pc.sh (n : Nat) : Pc FM → Pc FM
  | .bk id c t => .bk (n + id) (csh n c) t
  | .sl id k q c e s => .sl (n + id) k q (csh n c) e s
  | .rd id c => .rd (n + id) (csh n c)
  | .pr φ => .pr φ
  | .lp id r st pd => .lp (n + id) r st pd
  | .mk id b => .mk (n + id) b
  | .mp id k l => .mp (n + id) k l
  | .fz rs ds => .fz (rssh n rs) ds
def msh (n : Nat) : List (Pc FM) → List (Pc FM)
  | [] => []
  | p :: m => p.sh n :: msh n m

theorem bas_sh {E E' : List Ad} {id o : Nat} : bas (E ++ E') (E.length + id) o = bas E' id o := by
  unfold bas; rw [List.getElem?_append_right (by omega)]; simp
theorem plc_sh {E E' : List Ad} {id o : Nat} : plc (E ++ E') (E.length + id) o = plc E' id o := by
  unfold plc; rw [List.getElem?_append_right (by omega)]; simp
theorem bno_sh {E E' : List Ad} {id : Nat} : bno (E ++ E') (E.length + id) = bno E' id := by
  unfold bno; rw [List.getElem?_append_right (by omega)]; simp
theorem S0.sh_den {E E' : List Ad} {x : S0} : (x.sh E.length).den (E ++ E') = x.den E' := by
  cases x <;> simp only [S0.sh, S0.den, bas_sh, plc_sh, bno_sh]
theorem csh_den {E E' : List Ad} : ∀ {c : Ce FM}, cden (E ++ E') (csh E.length c) = cden E' c
  | [] => rfl
  | .b (.cl x) :: c => by simp only [csh, Sg.sh, cden, Sg.den, Sg0.den, S0.sh_den, csh_den (c := c)]
  | .b (.iz k l n) :: c => by simp only [csh, Sg.sh, cden, Sg.den, Sg0.den, csh_den (c := c)]
  | .f j l n :: c => by simp only [csh, Sg.sh, cden, Sg.den, csh_den (c := c)]
theorem csh_wf {n : Nat} : ∀ {c : Ce FM}, cwf (csh n c) ↔ cwf c
  | [] => Iff.rfl
  | .b (.cl x) :: c => by simp only [csh, Sg.sh, cwf, Sg.wf, Sg0.wf, csh_wf (c := c)]
  | .b (.iz k l m) :: c => by simp only [csh, Sg.sh, cwf, Sg.wf, Sg0.wf, csh_wf (c := c)]
  | .f j l m :: c => by simp only [csh, Sg.sh, cwf, Sg.wf, csh_wf (c := c)]
theorem csh_dRd {n : Nat} {w : World} : ∀ {c : Ce FM}, dRd w (csh n c) = dRd w c
  | [] => rfl
  | .b (.cl x) :: c => by simp only [csh, Sg.sh, dRd, csh_dRd (c := c)]
  | .b (.iz k l m) :: c => by simp only [csh, Sg.sh, dRd, csh_dRd (c := c)]
  | .f j l m :: c => by simp only [csh, Sg.sh, dRd, csh_dRd (c := c)]
theorem rssh_den {E E' : List Ad} {w : World} : ∀ {r : List (Nat × Ce FM)}, ROk (E ++ E') w (rssh E.length r) = ROk E' w r
  | [] => rfl
  | (id, c) :: r => by simp only [rssh, ROk, bas_sh, csh_den, csh_dRd, rssh_den (r := r)]
theorem rssh_wf {n : Nat} : ∀ {r : List (Nat × Ce FM)}, rswf (rssh n r) ↔ rswf r
  | [] => Iff.rfl
  | (id, c) :: r => by simp only [rssh, rswf, csh_wf, rssh_wf (r := r)]
theorem SV.sh_den {E E' : List Ad} {x : SV FM} : (x.sh E.length).den (E ++ E') = x.den E' := by
  cases x with
  | one x => exact S0.sh_den
  | ag c => simp only [SV.sh, SV.den, csh_den]
theorem SV.sh_wf {n : Nat} {x : SV FM} : (x.sh n).wf ↔ x.wf := by
  cases x with
  | one x => exact Iff.rfl
  | ag c => exact csh_wf
theorem svsh_den {E E' : List Ad} : ∀ {l : List (SV FM)}, (svsh E.length l).map (SV.den (E ++ E')) = l.map (SV.den E')
  | [] => rfl
  | x :: l => by simp only [svsh, List.map_cons, SV.sh_den, svsh_den (l := l)]
theorem svsh_wf {n : Nat} : ∀ {l : List (SV FM)}, svwf (svsh n l) ↔ svwf l
  | [] => Iff.rfl
  | x :: l => by simp only [svsh, svwf, SV.sh_wf, svsh_wf (l := l)]
theorem TV.sh_den {E E' : List Ad} {x : TV FM} : (x.sh E.length).den (E ++ E') = x.den E' := by
  cases x with
  | v x => exact SV.sh_den
  | tup l => simp only [TV.sh, TV.den, svsh_den]
  | fn f a b => simp only [TV.sh, TV.den, svsh_den]
theorem TV.sh_wf {n : Nat} {x : TV FM} : (x.sh n).wf ↔ x.wf := by
  cases x with
  | v x => exact SV.sh_wf
  | tup l => exact svsh_wf
  | fn f a b => exact and_congr svsh_wf svsh_wf
theorem msh_den {E E' : List Ad} : ∀ {m : List (Pc FM)}, mden (E ++ E') (msh E.length m) = mden E' m
  | [] => rfl
  | .bk id c t :: m => by simp only [msh, Pc.sh, mden, Pc.den, bno_sh, csh_den, msh_den (m := m)]
  | .sl id k q c e s :: m => by simp only [msh, Pc.sh, mden, Pc.den, bas_sh, csh_den, msh_den (m := m)]
  | .rd id c :: m => by simp only [msh, Pc.sh, mden, Pc.den, bas_sh, csh_den, msh_den (m := m)]
  | .pr φ :: m => by simp only [msh, Pc.sh, mden, Pc.den, msh_den (m := m)]
  | .lp id r st pd :: m => by simp only [msh, Pc.sh, mden, Pc.den, bno_sh, msh_den (m := m)]
  | .mk id b :: m => by simp only [msh, Pc.sh, mden, Pc.den, bno_sh, msh_den (m := m)]
  | .mp id k l :: m => by simp only [msh, Pc.sh, mden, Pc.den, bno_sh, msh_den (m := m)]
  | .fz rs ds :: m => by simp only [msh, Pc.sh, mden, Pc.den, rssh_den, msh_den (m := m)]
theorem msh_wf {n : Nat} : ∀ {m : List (Pc FM)}, mwf (msh n m) ↔ mwf m
  | [] => Iff.rfl
  | .bk id c t :: m => by simp only [msh, Pc.sh, mwf, Pc.wf, csh_wf, msh_wf (m := m)]
  | .sl id k q c e s :: m => by simp only [msh, Pc.sh, mwf, Pc.wf, csh_wf, msh_wf (m := m)]
  | .rd id c :: m => by simp only [msh, Pc.sh, mwf, Pc.wf, csh_wf, msh_wf (m := m)]
  | .pr φ :: m => by simp only [msh, Pc.sh, mwf, Pc.wf, msh_wf (m := m)]
  | .lp id r st pd :: m => by simp only [msh, Pc.sh, mwf, Pc.wf, msh_wf (m := m)]
  | .mk id b :: m => by simp only [msh, Pc.sh, mwf, Pc.wf, msh_wf (m := m)]
  | .mp id k l :: m => by simp only [msh, Pc.sh, mwf, Pc.wf, msh_wf (m := m)]
  | .fz rs ds :: m => by simp only [msh, Pc.sh, mwf, Pc.wf, rssh_wf, msh_wf (m := m)]
theorem mden_append {E : List Ad} : ∀ {a b : List (Pc FM)}, mden E (a ++ b) = mden E a ++ mden E b
  | [], b => rfl
  | p :: a, b => by simp only [List.cons_append, mden, mden_append (a := a)]
theorem mwf_append : ∀ {a b : List (Pc FM)}, mwf (a ++ b) ↔ mwf a ∧ mwf b
  | [], b => by simp [mwf]
  | p :: a, b => by simp [mwf, mwf_append (a := a), and_assoc]
theorem mlt_append {N : Nat} : ∀ {a b : List (Pc FM)}, mlt N (a ++ b) = true ↔ mlt N a = true ∧ mlt N b = true
  | [], b => by simp [mlt]
  | p :: a, b => by simp [mlt, mlt_append (a := a), and_assoc]
theorem mbk_append {E : List Ad} : ∀ {a b : List (Pc FM)}, mbk E (a ++ b) = true ↔ mbk E a = true ∧ mbk E b = true
  | [], b => by simp [mbk]
  | p :: a, b => by simp [mbk, mbk_append (a := a), and_assoc]

section
variable {M : Nat → Prop} {w0 w : World}
/-- Cells of the call's own as parts of records, out of what is no longer written. -/
def dcFz (E : List Ad) (rs : List (Nat × Ce FM)) : Ce FM → Option (List DC × List Prop)
  | [] => some ([], [])
  | .b (.cl (.xv (.slice none 0 0))) :: c => (dcFz E rs c).map fun (r, φ) => (.d none .u8 [] 0 :: r, φ)
  | .b (.cl (.sc id o n cap t)) :: c => bif t || !Nat.beq o 0 then none else match rAt rs id, dcFz E rs c with
    | some [.b (.iz k l _)], some (r, ψ) => some (.d (bas E id o) k l cap :: r, (n = l.length) :: ψ)
    | _, _ => none
  | .b s :: c => bif s.ok 0 then (dcFz E rs c).map fun (r, φ) => (.c s :: r, φ) else none
  | .f .. :: _ => none
theorem rAt_rd {E : List Ad} {w : World} : ∀ {r : List (Nat × Ce FM)} {id : Nat} {c : Ce FM}, rAt r id = some c → ROk E w r → Rd w (bas E id 0) (cden E c)
  | [], id, c, h, _ => by simp [rAt] at h
  | (j, d) :: r, id, c, h, h1 => by
    simp only [rAt, cond_eq_ite] at h
    split at h
    · rename_i hj
      have := beq_n hj; subst this
      simp only [Option.some.injEq] at h; subst h
      exact h1.1.1
    · exact rAt_rd h h1.2
theorem dcFz_spec {E : List Ad} {rs : List (Nat × Ce FM)} : ∀ {c : Ce FM} {ds : List DC} {φ : List Prop}, dcFz E rs c = some (ds, φ) → All φ → cwf c → dcden ds = cden E c ∧ dcwf ds ∧ ∀ w', ROk E w' rs → ∀ A k l cap, DC.d A k l cap ∈ ds → Rd w' A (iv k l)
  | [], ds, φ, h, _, _ => by
    simp only [dcFz, Option.some.injEq, Prod.mk.injEq] at h
    obtain ⟨rfl, rfl⟩ := h
    exact ⟨rfl, trivial, by simp⟩
  | .f .. :: _, _, _, h, _, _ => by simp [dcFz] at h
  | .b s :: c, ds, φ, h, hφ, hw => by
    unfold dcFz at h
    split at h
    · rename_i e; cases e
    · rename_i c1 e
      simp only [List.cons.injEq, Sg.b.injEq] at e
      obtain ⟨rfl, rfl⟩ := e
      obtain ⟨⟨r, ψ⟩, hr, h⟩ := Option.map_eq_some_iff.1 h
      simp only [Prod.mk.injEq] at h
      obtain ⟨rfl, rfl⟩ := h
      obtain ⟨g1, g2, g3⟩ := dcFz_spec hr hφ hw.2
      refine ⟨by simp only [dcden, DC.den, cden, Sg.den, Sg0.den, S0.den, g1]; rfl, g2, fun w' hR A k l cap hm => ?_⟩
      rcases List.mem_cons.1 hm with e | hm
      · simp only [DC.d.injEq] at e
        obtain ⟨rfl, rfl, rfl, rfl⟩ := e
        exact Rd.nil _ _
      · exact g3 w' hR A k l cap hm
    · rename_i id o n cap t c1 e
      simp only [List.cons.injEq, Sg.b.injEq] at e
      obtain ⟨rfl, rfl⟩ := e
      simp only [cond_eq_ite] at h
      split at h
      · cases h
      · rename_i hto
        have ho : o = 0 := by
          by_cases ho : Nat.beq o 0 = true
          · exact beq_n ho
          · simp [ho] at hto
        subst ho
        split at h
        · rename_i k l m r ψ ha hr
          simp only [Option.some.injEq, Prod.mk.injEq] at h
          obtain ⟨rfl, rfl⟩ := h
          obtain ⟨hn, hφ⟩ := hφ
          obtain ⟨g1, g2, g3⟩ := dcFz_spec hr hφ hw.2
          refine ⟨by simp only [dcden, DC.den, cden, Sg.den, Sg0.den, S0.den, g1, hn], g2, fun w' hR A k' l' cap' hm => ?_⟩
          rcases List.mem_cons.1 hm with e | hm
          · simp only [DC.d.injEq] at e
            obtain ⟨rfl, rfl, rfl, rfl⟩ := e
            have := rAt_rd ha hR
            simpa [cden, Sg.den, Sg0.den] using this
          · exact g3 w' hR A k' l' cap' hm
        · cases h
    · rename_i s' c1 _ _ e
      simp only [List.cons.injEq, Sg.b.injEq] at e
      obtain ⟨rfl, rfl⟩ := e
      simp only [cond_eq_ite] at h
      split at h
      · rename_i hk
        obtain ⟨⟨r, ψ⟩, hr, h⟩ := Option.map_eq_some_iff.1 h
        simp only [Prod.mk.injEq] at h
        obtain ⟨rfl, rfl⟩ := h
        obtain ⟨g1, g2, g3⟩ := dcFz_spec hr hφ hw.2
        refine ⟨?_, ⟨hw.1, g2⟩, fun w' hR A k l cap hm => ?_⟩
        · have := c0ext (E := []) (X := E) (c := [s]) (by simp only [c0ok, List.length_nil, hk, Bool.and_self])
          simp only [c0den, List.append_nil, List.nil_append] at this
          simp only [dcden, DC.den, cden, Sg.den, g1, this]
        · rcases List.mem_cons.1 hm with e | hm
          · cases e
          · exact g3 w' hR A k l cap hm
      · cases h
    · rename_i e; cases e
/-- A row of cells as records whose slices are no longer written. -/
def packK (E : List Ad) (m : List (Pc FM)) (kY kf j : Nat) : Option (List (Pc FM) × List Prop) := match m[kY]?, m[kf]? with
  | some (.sl id n q c e s), some (.fz rs ds) => (dcFz E rs c).bind fun (D, φ) => (dchk (FM j) (D.length + 1) D).map fun l => ((m.set kY (.sl id n q [.f j l l.length] e s)).set kf (.fz rs ([.f j l l.length] :: ds)), φ)
  | _, _ => none
theorem packK_spec {E : List Ad} {m m' : List (Pc FM)} {kY kf j : Nat} {φ : List Prop} (h : packK E m kY kf j = some (m', φ)) (hφ : All φ) (hw : mwf m) (H : Hp M w0 w (mden E m)) : Hp M w0 w (mden E m') ∧ mwf m' := by
  unfold packK at h
  split at h
  · rename_i id n q c e s rs ds hY hf
    obtain ⟨⟨D, φ'⟩, hD, h⟩ := Option.bind_eq_some_iff.1 h
    obtain ⟨l, hl, h⟩ := Option.map_eq_some_iff.1 h
    simp only [Prod.mk.injEq] at h
    obtain ⟨rfl, rfl⟩ := h
    have hne : kY ≠ kf := fun e => by rw [e, hf] at hY; simp at hY
    have wY : cwf c := mwf_at hw hY
    have wf : rswf rs := mwf_at hw hf
    obtain ⟨g1, g2, g3⟩ := dcFz_spec hD hφ wY
    have key : ∀ w', ROk E w' rs → dcden D = fden (FM j) l ∧ ∀ a ∈ l, (FM j).wf a ∧ fmRd (FM j) w' a := fun w' hR => dchk_spec (w := w') hl g2 (g3 w' hR)
    have h0 := H.pr kf (mden_at (E := E) hf)
    refine ⟨?_, ?_⟩
    · have e1 : cden E [.f j l l.length] = cden E c := by
        rw [← g1, (key _ h0.1).1]; simp [cden, Sg.den]
      rw [mden_set, mden_set]
      have lY : kY < (mden E m).length := (List.getElem?_eq_some_iff.1 (mden_at (E := E) hY)).1
      have e2 : (mden E m).set kY (Pc.den E (.sl id n q [.f j l l.length] e s)) = mden E m := by
        have := mden_at (E := E) hY
        refine List.ext_getElem? fun i => ?_
        by_cases hi : i = kY
        · subst hi
          rw [List.getElem?_set_self lY, this]
          simp only [Pc.den, e1]
        · rw [List.getElem?_set_ne (Ne.symm hi)]
      rw [e2]
      exact H.prTo kf (φ := fun w => ROk E w rs ∧ dsOk w ds) (mden_at (E := E) hf) fun w' hw' => ⟨hw'.1, ⟨⟨fun a ha => ((key w' hw'.1).2 a ha).2, trivial⟩, hw'.2⟩⟩
    · exact mwf_set (mwf_set hw ⟨⟨rfl, fun a ha => ((key w h0.1).2 a ha).1⟩, trivial⟩) wf
  · cases h
end

section
variable {M : Nat → Prop} {w0 w : World}
/-- Where the pieces that are no longer written stand. -/
def fzIs : Nat → List (Pc FM) → List Nat
  | _, [] => []
  | i, .fz _ _ :: m => i :: fzIs (i + 1) m
  | i, _ :: m => fzIs (i + 1) m
def lstO : List Nat → Option Nat
  | [] => none
  | [x] => some x
  | _ :: y :: r => lstO (y :: r)
def fzLast (m : List (Pc FM)) : Option Nat := lstO (fzIs 0 m)
def mrgAll : List (Pc FM) → Nat → List Nat → List (Pc FM)
  | m, _, [] => m
  | m, k, i :: r => match mrgK m k i with
    | some m' => mrgAll m' k r
    | none => mrgAll m k r
/-- All that is no longer written is told by the last such piece. -/
def nrmF (m : List (Pc FM)) : List (Pc FM) := match fzLast m with
  | some k => mrgAll m k (fzIs 0 m)
  | none => m
/-- It, and what it says. -/
def fzC (m : List (Pc FM)) : Option (Nat × List (Nat × Ce FM) × List (Ce FM)) := (fzLast m).bind fun k => match (nrmF m)[k]? with
  | some (.fz rs ds) => some (k, rs, ds)
  | _ => none
theorem fzC_spec {m : List (Pc FM)} {k : Nat} {rs : List (Nat × Ce FM)} {ds : List (Ce FM)} (h : fzC m = some (k, rs, ds)) : (nrmF m)[k]? = some (.fz rs ds) := by
  unfold fzC at h
  obtain ⟨k', hk, h⟩ := Option.bind_eq_some_iff.1 h
  split at h
  · rename_i rs' ds' he
    simp only [Option.some.injEq, Prod.mk.injEq] at h
    obtain ⟨rfl, rfl, rfl⟩ := h; exact he
  · cases h
/-- A piece for what is no longer written. -/
def wfz (m : List (Pc FM)) : List (Pc FM) := match fzLast m with
  | some _ => nrmF m
  | none => .fz [] [] :: m
/-- The slices of raw cells. -/
def inIds : Ce FM → List Nat
  | [] => []
  | .b (.cl (.sc id _ _ _ _)) :: c => id :: inIds c
  | _ :: c => inIds c
/-- All these are no longer written, and told by one piece. -/
def frzAll : List (Pc FM) → Option Nat → List Nat → Option (List (Pc FM) × Option Nat)
  | m, kf, [] => some (m, kf)
  | m, kf, id :: r => match pcAt m id with
    | some (k, _) => (frzK m k).bind fun m1 => match kf with
      | some f => (mrgK m1 f k).bind fun m2 => frzAll m2 (some f) r
      | none => frzAll m1 (some k) r
    | none => frzAll m kf r
theorem frzAll_spec {E : List Ad} : ∀ {ids : List Nat} {m m' : List (Pc FM)} {kf kf' : Option Nat}, frzAll m kf ids = some (m', kf') → Hp M w0 w (mden E m) → Hp M w0 w (mden E m')
  | [], m, m', kf, kf', h, H => by
    simp only [frzAll, Option.some.injEq, Prod.mk.injEq] at h
    obtain ⟨rfl, -⟩ := h; exact H
  | id :: r, m, m', kf, kf', h, H => by
    simp only [frzAll] at h
    split at h
    · obtain ⟨m1, h1, h⟩ := Option.bind_eq_some_iff.1 h
      have H1 := frzK_spec h1 H
      split at h
      · obtain ⟨m2, h2, h⟩ := Option.bind_eq_some_iff.1 h
        exact frzAll_spec h (mrgK_spec h2 H1)
      · exact frzAll_spec h H1
    · exact frzAll_spec h H
/-- What the shape of the pieces keeps. -/
def Kp (E : List Ad) (m m' : List (Pc FM)) : Prop := (mlt E.length m = true → mlt E.length m' = true) ∧ (mbk E m = true → mbk E m' = true)
theorem Kp.trans {E : List Ad} {a b c : List (Pc FM)} (h : Kp E a b) (k : Kp E b c) : Kp E a c := ⟨fun x => k.1 (h.1 x), fun x => k.2 (h.2 x)⟩
theorem rswf_app : ∀ {a b : List (Nat × Ce FM)}, rswf (a ++ b) ↔ rswf a ∧ rswf b
  | [], b => by simp [rswf]
  | (i, c) :: a, b => by simp [rswf, rswf_app (a := a), and_assoc]
theorem rslt_app {N : Nat} : ∀ {a b : List (Nat × Ce FM)}, rslt N (a ++ b) = (rslt N a && rslt N b)
  | [], b => by simp [rslt]
  | (i, c) :: a, b => by simp [rslt, rslt_app (a := a), Bool.and_assoc]
theorem frzK_wf {E : List Ad} {m m' : List (Pc FM)} {k : Nat} (h : frzK m k = some m') : Kp E m m' ∧ (mwf m → mwf m') := by
  unfold frzK at h
  split at h
  · rename_i id n q c e s hk
    simp only [cond_eq_ite] at h
    split at h
    · simp only [Option.some.injEq] at h; subst h
      refine ⟨⟨fun hl => mlt_set hl ?_, fun hb => mbk_set hb rfl⟩, fun hw => mwf_set hw ⟨(mwf_at hw hk : cwf c), trivial⟩⟩
      have h1 : (Nat.blt id E.length && cok E.length c) = true := mlt_at hl hk
      simp only [Pc.lt, rslt, h1, Bool.and_self]
    · cases h
  · cases h
theorem mrgK_wf {E : List Ad} {m m' : List (Pc FM)} {i j : Nat} (h : mrgK m i j = some m') : Kp E m m' ∧ (mwf m → mwf m') := by
  unfold mrgK at h
  split at h
  · rename_i rs ds rs' ds' hi hj
    simp only [cond_eq_ite] at h
    split at h
    · cases h
    · simp only [Option.some.injEq] at h; subst h
      refine ⟨⟨fun hl => mlt_set (mlt_set hl ?_) rfl, fun hb => mbk_set (mbk_set hb rfl) rfl⟩, fun hw => mwf_set (mwf_set hw (rswf_app.2 ⟨mwf_at hw hi, mwf_at hw hj⟩)) trivial⟩
      have h1 : rslt E.length rs = true := mlt_at hl hi
      have h2 : rslt E.length rs' = true := mlt_at hl hj
      simp only [Pc.lt, rslt_app, h1, h2, Bool.and_self]
  · cases h
theorem packK_kp {E : List Ad} {m m' : List (Pc FM)} {kY kf j : Nat} {φ : List Prop} (h : packK E m kY kf j = some (m', φ)) : Kp E m m' := by
  unfold packK at h
  split at h
  · rename_i id n q c e s rs ds hY hf
    obtain ⟨⟨D, φ'⟩, hD, h⟩ := Option.bind_eq_some_iff.1 h
    obtain ⟨l, hl, h⟩ := Option.map_eq_some_iff.1 h
    simp only [Prod.mk.injEq] at h
    obtain ⟨rfl, rfl⟩ := h
    refine ⟨fun hl => mlt_set (mlt_set hl ?_) (mlt_at hl hf : rslt E.length rs = true), fun hb => mbk_set (mbk_set hb rfl) rfl⟩
    have h1 : (Nat.blt id E.length && cok E.length c) = true := mlt_at hl hY
    simp only [Bool.and_eq_true] at h1
    simp only [Pc.lt, h1.1, cok, Sg.ok, Bool.and_self]
  · cases h
theorem frzAll_wf {E : List Ad} : ∀ {ids : List Nat} {m m' : List (Pc FM)} {kf kf' : Option Nat}, frzAll m kf ids = some (m', kf') → Kp E m m' ∧ (mwf m → mwf m')
  | [], m, m', kf, kf', h => by
    simp only [frzAll, Option.some.injEq, Prod.mk.injEq] at h
    obtain ⟨rfl, -⟩ := h; exact ⟨⟨fun h => h, fun h => h⟩, fun h => h⟩
  | id :: r, m, m', kf, kf', h => by
    simp only [frzAll] at h
    split at h
    · obtain ⟨m1, h1, h⟩ := Option.bind_eq_some_iff.1 h
      obtain ⟨a1, a2⟩ := frzK_wf (E := E) h1
      split at h
      · obtain ⟨m2, h2, h⟩ := Option.bind_eq_some_iff.1 h
        obtain ⟨b1, b2⟩ := mrgK_wf (E := E) h2
        obtain ⟨c1, c2⟩ := frzAll_wf (E := E) h
        exact ⟨(a1.trans b1).trans c1, fun hw => c2 (b2 (a2 hw))⟩
      · obtain ⟨c1, c2⟩ := frzAll_wf (E := E) h
        exact ⟨a1.trans c1, fun hw => c2 (a2 hw)⟩
    · exact frzAll_wf h
theorem mrgAll_ok {E : List Ad} : ∀ {is : List Nat} {m : List (Pc FM)} {k : Nat}, (Hp M w0 w (mden E m) → Hp M w0 w (mden E (mrgAll m k is))) ∧ Kp E m (mrgAll m k is) ∧ (mwf m → mwf (mrgAll m k is))
  | [], m, k => ⟨fun h => h, ⟨fun h => h, fun h => h⟩, fun h => h⟩
  | i :: r, m, k => by
    simp only [mrgAll]
    split
    · rename_i m' h
      obtain ⟨a1, a2, a3⟩ := mrgAll_ok (E := E) (is := r) (m := m') (k := k)
      obtain ⟨b1, b2⟩ := mrgK_wf (E := E) h
      exact ⟨fun H => a1 (mrgK_spec h H), b1.trans a2, fun hw => a3 (b2 hw)⟩
    · exact mrgAll_ok
theorem nrmF_ok {E : List Ad} {m : List (Pc FM)} : (Hp M w0 w (mden E m) → Hp M w0 w (mden E (nrmF m))) ∧ Kp E m (nrmF m) ∧ (mwf m → mwf (nrmF m)) := by
  unfold nrmF
  split
  · exact mrgAll_ok
  · exact ⟨fun h => h, ⟨fun h => h, fun h => h⟩, fun h => h⟩
theorem wfz_ok {m : List (Pc FM)} {E : List Ad} (H : Hp M w0 w (mden E m)) : Hp M w0 w (mden E (wfz m)) ∧ Kp E m (wfz m) ∧ (mwf m → mwf (wfz m)) := by
  unfold wfz
  split
  · exact ⟨nrmF_ok.1 H, (nrmF_ok (w := w) (w0 := w0) (M := M)).2⟩
  · exact ⟨H.add0 (e := (Pc.fz [] []).den E) (fun _ _ => ⟨trivial, trivial⟩), ⟨fun h => h, fun h => h⟩, fun h => ⟨trivial, h⟩⟩
end
end
end Go.Px
end
section
/-
  The walk by computing: what must hold that a function's code answers as a contract says. No condition.
-/
set_option linter.all false
namespace Go.Px
open Go.RowKit

/-! ### Code -/
def orElse {α : Type} : Option α → Option α → Option α
  | some a, _ => some a
  | none, b => b
/-- The first region. -/
def fid : Code → Option Nat
  | .region id _ _ => some id
  | .seq a b => orElse (fid a) (fid b)
  | .cond _ a b => orElse (fid a) (fid b)
  | .block _ a => fid a
  | .loop a => fid a
  | .scope a => fid a
  | .rangeFunc _ _ a b => orElse (fid a) (fid b)
  | _ => none
def wrO : List Oper → List Nat
  | [] => []
  | o :: r => match o.dst with
    | some d => d :: wrO r
    | none => wrO r
/-- The temporaries that are written. -/
def wrC : Code → List Nat
  | .region _ ops _ => wrO ops.toList
  | .seq a b => wrC a ++ wrC b
  | .cond _ a b => wrC a ++ wrC b
  | .block _ a => wrC a
  | .loop a => wrC a
  | .scope a => wrC a
  | .rangeFunc _ _ a b => wrC a ++ wrC b
  | _ => []
def firstQ (fl : FL) : List Nat → Option Nat
  | [] => none
  | x :: r => bif Nat.ble (fl x) 1 then some x else firstQ fl r
def brs (g : Nat → OT) : List Nat → OT
  | [] => .nil
  | [x] => g x
  | x :: y :: r => .br (g x) (brs g (y :: r))
/-- An order of a region's operations: those that are quiet as early as may be. -/
def ordO (ops : Array Oper) (fl : FL) : Nat → Array Bool → OT
  | 0, _ => .nil
  | f + 1, listed => match Region.ready .any ops listed with
    | [] => .nil
    | x :: r => match firstQ fl (x :: r) with
      | some y => .s y (ordO ops fl f (listed.setIfInBounds y true))
      | none => brs (fun y => .s y (ordO ops fl f (listed.setIfInBounds y true))) (x :: r)
def ordOf (ops : Array Oper) (fl : FL) : OT := ordO ops fl (ops.size + 1) (Array.replicate ops.size false)

section
variable {FM : Nat → Fm}

/-- What is said where ways meet: at a loop's head, behind a branch. -/
structure HA (FM : Nat → Fm) where
  α : Type
  E : α → List Ad
  T : Nat → α → ST FM
  m : Nat → α → List (Pc FM)
  inv : α → List Prop
  mu : α → Nat
def HA.hd (L : HA FM) (S : SS FM) (ws : List Nat) (x : L.α) : SS FM := ⟨L.T S.E.length x ++ (unk ws ++ S.T), S.E ++ L.E x, L.m S.E.length x, S.V, S.R⟩
def HA.ck (L : HA FM) (S : SS FM) (x : L.α) : Bool := stlt (S.E.length + (L.E x).length) (L.T S.E.length x) && mlt (S.E.length + (L.E x).length) (L.m S.E.length x) && mbk (S.E ++ L.E x) (L.m S.E.length x)
def lastN {α : Type} (n : Nat) (l : List α) : List α := l.drop (l.length - n)
/-- What must hold that a state is the head's. -/
def HA.eqs (L : HA FM) (S S1 : SS FM) (x : L.α) : List Prop :=
  uT S.E.length S1.E (S.E ++ L.E x) S1.T (L.T S.E.length x) ++ (uX (S.E ++ L.E x) ((L.m S.E.length x).take ((L.m S.E.length x).length - S1.m.length)) ++ uN S.E.length S1.E S1.V (S.E ++ L.E x) (lastN (L.m S.E.length x).length S1.m) ((L.m S.E.length x).drop ((L.m S.E.length x).length - S1.m.length)))
def HA.ck1 (L : HA FM) (S S1 : SS FM) (ws : List Nat) (x : L.α) : Bool := coverd (L.T S.E.length x) ws (S1.T.length - S.T.length) S1.T

def muL (L : HA FM) (m0 : Option Nat) (y : L.α) : List Prop := match m0 with
  | some n => [L.mu y < n]
  | none => []
inductive Fr (FM : Nat → Fm) where
  | sq (c : Code)
  | lu (c : Code) (n : Nat)
  | lx (c : Code)
  | blk (i : Nat)
  | np
  | hd (L : HA FM) (S : SS FM) (ws : List Nat) (m0 : Option Nat)
  | cl (ops : Array Oper) (dr : Bool) (ov : List (Nat × Nat)) (rest : OT) (dst : Option Nat) (T : ST FM) (E : List Ad) (g : FuncId) (fn : Func)
  | df (ds : List Deferred) (ids : List Nat)
  | rf (T : ST FM) (E : List Ad) (g : FuncId) (fn : Func) (id : Nat) (r : Loop) (bl bD : Nat) (ps : Array Tmp) (a b : Code) (n kb : Nat)
  | yd (ops : Array Oper) (dr : Bool) (ov : List (Nat × Nat)) (rest : OT) (dst : Option Nat) (T : ST FM) (E : List Ad) (id l n kb : Nat)
  | as (b : Code) (id l : Nat)
/-- How many temporaries the function has that runs, and what was put off in it. -/
def nOf (N : Nat) : List (Fr FM) → FN
  | [] => ⟨N, []⟩
  | .cl _ _ _ _ _ _ _ _ fn :: _ => ⟨fn.ntmps, []⟩
  | .rf _ _ _ fn _ _ _ _ _ _ _ _ _ :: _ => ⟨fn.ntmps, []⟩
  | .yd _ _ _ _ _ _ _ _ _ n _ :: _ => ⟨n, []⟩
  | .df ds _ :: fs => ⟨(nOf N fs).n, ds ++ (nOf N fs).D⟩
  | .sq _ :: fs => nOf N fs
  | .lu _ _ :: fs => nOf N fs
  | .lx _ :: fs => nOf N fs
  | .blk _ :: fs => nOf N fs
  | .np :: fs => nOf N fs
  | .hd _ _ _ _ :: fs => nOf N fs
  | .as _ _ _ :: fs => nOf N fs
/-- The round of a range over a function that the code that runs is of. -/
def roOf : List (Fr FM) → Option Nat
  | [] => none
  | .cl _ _ _ _ _ _ _ _ _ :: _ => none
  | .rf _ _ _ _ _ _ _ _ _ _ _ _ _ :: _ => none
  | .yd _ _ _ _ _ _ _ _ l _ _ :: _ => some l
  | .df _ _ :: fs => roOf fs
  | .sq _ :: fs => roOf fs
  | .lu _ _ :: fs => roOf fs
  | .lx _ :: fs => roOf fs
  | .blk _ :: fs => roOf fs
  | .np :: fs => roOf fs
  | .hd _ _ _ _ :: fs => roOf fs
  | .as _ _ _ :: fs => roOf fs
/-- By what key an annotation is found: a region of the function itself, or of one that is gone through in place. -/
def keyB : List (Fr FM) → Nat
  | [] => 0
  | .cl _ _ _ _ _ _ _ g _ :: _ => (g + 1) * 100000
  | .rf _ _ g _ _ _ _ _ _ _ _ _ _ :: _ => (g + 1) * 100000
  | .yd _ _ _ _ _ _ _ _ _ _ kb :: _ => kb
  | _ :: fs => keyB fs
def keyF (id : Nat) (fs : List (Fr FM)) : Nat := keyB fs + id
/-- Where a range over a function was begun. -/
def rfOf : List (Fr FM) → Nat → Option (ST FM × Array Tmp × Code × Code × Loop × Nat × Nat × Nat)
  | [], _ => none
  | .rf T _ _ _ id r bl _ ps a b n kb :: fs, i => bif Nat.beq id i then some (T, ps, a, b, r, bl, n, kb) else rfOf fs i
  | _ :: fs, i => rfOf fs i
inductive Pt where
  | code (c : Code)
  | ops (ops : Array Oper) (dr : Bool) (ov : List (Nat × Nat)) (t : OT)
  | nrm
  | ext (i : Nat)
  | ret
  | pan (v : S0)

def ascF {β : Type 1} : List (Nat × β) → Nat → Option β
  | [], _ => none
  | (a, b) :: r, t => bif Nat.beq a t then some b else ascF r t
def ascO : List (Nat × List (Nat × Nat)) → Nat → List (Nat × Nat)
  | [], _ => []
  | (a, b) :: r, t => bif Nat.beq a t then b else ascO r t

structure RC (FM : Nat → Fm) where
  X : Cx
  N : Nat
  cons : List (Con X.P FM)
  La : List (Nat × (SS FM → HA FM))
  Ca : List (Nat × (SS FM → HA FM))
  ov : List (Nat × List (Nat × Nat))
  fin : SS FM → Prop
  inl : List Nat := []

/-! ### New blocks -/
def cz : Ce FM → Option (IntKind × List Int)
  | [.b (.cl (.xv (.int k x)))] => some (k, [x])
  | .b (.cl (.xv (.int k x))) :: c => match cz c with
    | some (k', l) => bif decide (k = k') then some (k, x :: l) else none
    | none => none
  | _ => none
/-- Numbers side by side as one run. -/
def nice (e : Option TypeDesc) (c : Ce FM) : Ce FM := match e with
  | some (.int k) => match c with
    | [] => [.b (.iz k [] 0)]
    | c => match cz c with
      | some (k', l) => [.b (.iz k' l l.length)]
      | none => c
  | _ => c
def chunk (F : Fm) : Nat → Ce FM → Option (List F.α × Nat)
  | _, [] => some ([], 0)
  | 0, _ => none
  | f + 1, c => match (dn0 (c.take (F.sg F.d).length)).bind F.of with
    | some a => (chunk F f (c.drop (F.sg F.d).length)).map fun (l, n) => (a :: l, n + 1)
    | none => none
def niceF (j : Nat) (c : Ce FM) : Ce FM := match chunk (FM j) (c.length + 1) c with
  | some (l, n) => [.f j l n]
  | none => c

def niceQ (X : Cx) (e : TypeId) (c : Ce FM) : Ce FM := match asc X.fm e with
  | some j => niceF j c
  | none => nice (X.P.underlying e) c
def zrow (z : Value) (n : Nat) : Array Value := (Array.range n).map (z.cells[· % z.cells.size]!)
/-- A new block's cells, its type, and whether it is told as a slice: how many elements of what size. -/
def newC (X : Cx) (S : SS FM) (o : Oper) : Option (Ce FM × TypeId × Option (Nat × Nat)) := match o.op with
  | .alloc e => (zvB X.P e).bind fun z => (shp X.P X.fm 30 e).bind fun s => (rgA s z.cells.toList).map fun c => (c, e, none)
  | .box e y => match evS X S (some e) y with
    | some (.v v) => bif cok S.E.length v.ce then some (v.ce, e, none) else none
    | _ => none
  | .buildSlice t len ps => match X.P.underlying t with
    | some (.slice e) => match sizeB X.P e, evParts X S ps.toList, zvB X.P e, shp X.P X.fm 30 e with
      | some s, some l, some z, some sh => bif Nat.ble (len * s) 16777216 && Nat.ble 1 s && Nat.ble len 16777216 then
          (rgA (rep sh len) (zrow z (len * s)).toList).bind fun c0 => (bfill S.E.length (fun i => some (i * s, s)) c0 l).bind fun c =>
            bif Nat.beq (cn c) (len * s) then some (niceQ X e c, e, some (len, s)) else none
        else none
      | _, _, _, _ => none
    | _ => none
  | _ => none

/-! ### Stores -/
/-- A truth that is known is written as a truth. -/
def kbN : SV FM → SV FM
  | .one (.kb b) => .one (.xv (.bool b))
  | x => x
theorem kbN_den {E : List Ad} (v : SV FM) : (kbN v).den E = v.den E := by unfold kbN; split <;> rfl
theorem kbN_wf {v : SV FM} (h : v.wf) : (kbN v).wf := by unfold kbN; split; exact trivial; exact h
def stS (X : Cx) (S : SS FM) (o : Oper) : Option (List Prop × SS FM) := match o.op, o.dst with
  | .store ty y z, none => match evS X S none y, evS X S (some ty) z, sizeB X.P ty with
    | some (.v (.one (.pt id off))), some (.v v), some n => match pcAt S.m id with
      | some (k, .bk j c t) => bif Nat.beq (cn v.ce) n && cok S.E.length v.ce then (cput c off v.ce).map fun c' => ([], { S with m := S.m.set k (.bk j c' t) }) else none
      | some (k, .sl j a b c e s) => bif Nat.beq (cn v.ce) n && cok S.E.length v.ce && Nat.ble 1 n then (cput c off v.ce).map fun c' => ([], { S with m := S.m.set k (.sl j a b c' e s) }) else none
      | _ => none
    | some (.v (.one (.qt id o i st o2))), some (.v v), some n => match pcAt S.m id with
      | some (k, .bk j c t) => bif Nat.beq (cn (kbN v).ce) n && cok S.E.length (kbN v).ce then (cdynput c o i st o2 (kbN v).ce).map fun (c', m) => ([i < m], { S with m := S.m.set k (.bk j c' t) }) else none
      | some (k, .sl j a b c e s) => bif Nat.beq (cn (kbN v).ce) n && cok S.E.length (kbN v).ce && Nat.ble 1 n then (cdynput c o i st o2 (kbN v).ce).map fun (c', m) => ([i < m], { S with m := S.m.set k (.sl j a b c' e s) }) else none
      | _ => none
    | _, _, _ => none
  | _, _ => none

/-! ### Records that hold slices -/
/-- Cells of a record: the slices in it get addresses of their own. -/
def dcells (inn : Nat → Option (Option Addr × IntKind × List Int)) : Nat → Nat → List Sg0 → Ce FM × List Ad × List (Nat × Ce FM)
  | _, _, [] => ([], [], [])
  | off, id, .cl (.xv (.slice A n cap)) :: r => match inn off with
    | some (A', k, l) => (.b (.cl (.sc id 0 l.length cap false)) :: (dcells inn (off + 1) (id + 1) r).1, .ad A' :: (dcells inn (off + 1) (id + 1) r).2.1, (id, [.b (.iz k l l.length)]) :: (dcells inn (off + 1) (id + 1) r).2.2)
    | none => (.b (.cl (.xv (.slice A n cap))) :: (dcells inn (off + 1) id r).1, (dcells inn (off + 1) id r).2)
  | off, id, s :: r => (.b s :: (dcells inn (off + s.n) id r).1, (dcells inn (off + s.n) id r).2)
def dldQ (X : Cx) (S : SS FM) (o : Oper) : Option (List Prop × SV FM × List Ad × List (Nat × Ce FM)) := match o.op with
  | .load ty y => match evS X S none y with
    | some (.v (.one (.qt id o i st o2))) => (rdR S.V S.R 9 id).bind fun (c, φs) => (catq c o).bind fun (_, x, _) => match x with
      | .f j l m => bif (FM j).deep && Nat.beq st (FM j).sz then
          match aggB X.P ty with
          | some true => (sizeB X.P ty).bind fun n => (c0sub ((FM j).sg (l.getD i (FM j).d)) o2 n).map fun r => ((i < m) :: φs, .ag (dcells ((FM j).inn (l.getD i (FM j).d)) o2 S.E.length r).1, (dcells (FM := FM) ((FM j).inn (l.getD i (FM j).d)) o2 S.E.length r).2)
          | some false => (c0sub ((FM j).sg (l.getD i (FM j).d)) o2 1).bind fun r => match dcells (FM := FM) ((FM j).inn (l.getD i (FM j).d)) o2 S.E.length r with
            | ([.b (.cl x)], q) => some ((i < m) :: φs, .one x, q)
            | _ => none
          | none => none
        else none
      | _ => none
    | _ => none
  | _ => none

/-! ### Slices that grow, copies -/
abbrev XA (FM : Nat → Fm) := Option (List Prop × (Nat → List Prop) × (Option Addr → Nat → SS FM))
abbrev XM (FM : Nat → Fm) := Option (List Prop × (Option Addr → SS FM))
abbrev XU (FM : Nat → Fm) := Option (List Prop × SS FM)
abbrev XV (FM : Nat → Fm) := Option (List Prop × TV FM)
def capp : Ce FM → Ce FM → Option (Ce FM)
  | [.b (.iz k l m)], [.b (.iz k' l' m')] => bif decide (k = k') then some [.b (.iz k (l ++ l') (m + m'))] else none
  | [.f j l m], [.f j' l' m'] => if h : j' = j then some [.f j (l ++ h ▸ l') (m + m')] else none
  | _, _ => none
/-- How many elements of this size. -/
def cnt (sz : Nat) : Ce FM → Option Nat
  | [.b (.iz _ _ m)] => bif Nat.beq sz 1 then some m else none
  | [.f j _ m] => bif Nat.beq sz (FM j).sz then some m else none
  | _ => none
/-- A slice at hand that is read: its cells, how many elements, what must hold. -/
def slR (S : SS FM) (sz : Nat) : TV FM → Option (Ce FM × Nat × List Prop)
  | .v (.one (.sc id o n _ t)) => (arC S id o n t sz).bind fun (c, φ) => (cnt sz c).map fun m => (c, n, (n = m) :: φ)
  | _ => none
def isNil : TV FM → Bool
  | .v (.one (.xv (.slice none 0 0))) => true
  | _ => false
/-- A slice of the call's own: where its piece stands, how many elements, their cells, the room, what must hold. -/
def slW (S : SS FM) (e sz : Nat) : TV FM → Option (Nat × Nat × Nat × Ce FM × List Prop)
  | .v (.one (.sc id o n q t)) => bif Nat.beq o 0 then match pcAt S.m id with
    | some (k, .sl _ n0 q0 c e' s') => bif Nat.beq e e' && Nat.beq sz s' then
        (bif t then (vcut c 0 n sz).map fun (r, m) => (k, n, q, r, [n ≤ n0, 0 + n ≤ m, q = q0]) else some (k, n, q, c, [n = n0, q = q0])) else none
    | _ => none else none
  | _ => none
def appX (X : Cx) (S : SS FM) (d : Option Nat) (t : TypeId) (x y : Operand) : XA FM := match X.P.underlying t with
  | some (.slice e) => match tyT X.P e, evS X S (some t) x, evS X S (some t) y with
    | some (sz, by', _), some u, some v => match slR S sz v with
      | some (cy, ny, φy) =>
        bif isNil u then some (φy ++ [ny * by' ≤ 140737488355328], fun q => [ny ≤ q], fun A q => ⟨setT S.T d (some (.v (.one (.sc S.E.length 0 ny q false)))), S.E ++ [.ad A], [.sl S.E.length ny q cy e sz] ++ S.m, S.V, S.R⟩)
        else match slW S e sz u with
        | some (k, n, q0, c, φ) => (capp c cy).map fun r => (φ ++ (φy ++ [(n + ny) * by' ≤ 140737488355328]), fun q => [n + ny ≤ q], fun A q => ⟨setT S.T d (some (.v (.one (.sc S.E.length 0 (n + ny) q false)))), S.E ++ [.ad A], S.m.set k (.sl S.E.length (n + ny) q r e sz), S.V, S.R⟩)
        | none => none
      | none => none
    | _, _, _ => none
  | _ => none
/-- So many noughts of a type. -/
def zeros (X : Cx) (e n : Nat) (zs : List Value) : Option (Ce FM) := match asc X.fm e with
  | some j => match strip (c0den [] ((FM j).sg (FM j).d)) zs with
    | some [] => some [.f j (List.replicate n (FM j).d) n]
    | _ => none
  | none => match zs with
    | [.int k z] => bif decide (z = 0) then some [.b (.iz k (List.replicate n 0) n)] else none
    | _ => none
def azX (X : Cx) (S : SS FM) (d : Option Nat) (t t' : TypeId) (x y : Operand) : XA FM := match X.P.underlying t, X.P.underlying t' with
  | some (.slice e), some (.int _) => match tyT X.P e, evS X S (some t) x, evS X S (some t') y with
    | some (sz, by', _), some u, some (.v (.one (.xv (.int _ n)))) => bif isNil u then
        (zeros X e n.toNat (zOf X.P e)).map fun c => ([0 < n, n.toNat * by' ≤ 140737488355328], fun q => [n.toNat ≤ q], fun A q => ⟨setT S.T d (some (.v (.one (.sc S.E.length 0 n.toNat q false)))), S.E ++ [.ad A], [.sl S.E.length n.toNat q c e sz] ++ S.m, S.V, S.R⟩)
      else match slW S e sz u, zeros X e n.toNat (zOf X.P e) with
      | some (k, n0, q0, c, φ), some cz => (capp c cz).map fun r => (φ ++ [0 ≤ n, (n0 + n.toNat) * by' ≤ 140737488355328], fun q => [n0 + n.toNat ≤ q], fun A q => ⟨setT S.T d (some (.v (.one (.sc S.E.length 0 (n0 + n.toNat) q false)))), S.E ++ [.ad A], S.m.set k (.sl S.E.length (n0 + n.toNat) q r e sz), S.V, S.R⟩)
      | _, _ => none
    | _, _, _ => none
  | _, _ => none
def mkX (X : Cx) (S : SS FM) (d : Option Nat) (t : TypeId) (x y : Operand) : XM FM := match X.P.underlying t with
  | some (.slice e) => match tyT X.P e, evS X S none x, evS X S none y with
    | some (sz, by', _), some (.v (.one (.xv (.int _ n)))), some (.v (.one (.xv (.int _ q)))) =>
      (zeros X e n.toNat (zOf X.P e)).map fun c => ([0 ≤ n, n = q, by' * n.toNat ≤ 281474976710656], fun A => ⟨setT S.T d (some (.v (.one (.sc S.E.length 0 n.toNat n.toNat false)))), S.E ++ [.ad A], [.sl S.E.length n.toNat n.toNat c e sz] ++ S.m, S.V, S.R⟩)
    | _, _, _ => none
  | _ => none
def cpX (X : Cx) (S : SS FM) (d : Option Nat) (t : TypeId) (x y : Operand) : XU FM := match X.P.underlying t with
  | some (.slice e) => match tyT X.P e, evS X S (some t) x, evS X S (some t) y with
    | some (sz, _, _), some (.v (.one (.sc id o n q tr))), some v => match slR S sz v with
      | some (cy, ny, φy) => match pcAt S.m id with
        | some (k, .bk j c ty) => (bif Nat.beq ny (Nat.min ny n) then some (cy, []) else (vcut cy 0 (Nat.min ny n) sz).map fun (r, m) => (r, [0 + Nat.min ny n ≤ m])).bind fun (c1, φ1) =>
            bif cok S.E.length c1 && Nat.beq (cn c1) (Nat.min ny n * sz) then (cput c o c1).map fun c' => (φy ++ φ1, ⟨setT S.T d (some (one (.int .i64 ((Nat.min ny n : Nat) : Int)))), S.E, S.m.set k (.bk j c' ty), S.V, S.R⟩) else none
        | some (k, .sl j n0 q0 c e' s') => bif Nat.beq o 0 && Nat.beq e e' && Nat.beq sz s' then
            match vcut cy 0 (min ny n) sz, vcut c (min ny n) (n0 - min ny n) sz with
            | some (c1, m1), some (c2, m2) => (capp c1 c2).map fun c' => (φy ++ [0 + min ny n ≤ m1, min ny n + (n0 - min ny n) ≤ m2, n ≤ n0], ⟨setT S.T d (some (one (.int .i64 ((min ny n : Nat) : Int)))), S.E, S.m.set k (.sl j n0 q0 c' e' s'), S.V, S.R⟩)
            | _, _ => none
          else none
        | _ => none
      | none => none
    | _, _, _ => none
  | _ => none
def bsX (X : Cx) (S : SS FM) (src dst : TypeId) (x : Operand) : XV FM := match X.P.underlying src, X.P.underlying dst with
  | some (.slice e), some .string => match X.P.underlying e with
    | some (.int .u8) => match evS X S (some src) x with
      | some (.v (.one (.xv (.slice none 0 0)))) => some ([], .v (.one (.st [])))
      | some v => match slR S 1 v with
        | some ([.b (.iz .u8 l _)], _, φ) => some (φ, .v (.one (.st l)))
        | _ => none
      | none => none
    | _ => none
  | _, _ => none
def appQ (X : Cx) (S : SS FM) (o : Oper) : XA FM := match o.op with
  | .call { callee := .builtin .append, args := ⟨[x, y]⟩, argTypes := ⟨[t, t']⟩ } => bif Nat.beq t t' then appX X S o.dst t x y else azX X S o.dst t t' x y
  | _ => none
/-- Records that hold slices are told as such, ahead of being appended. -/
def dapQ (X : Cx) (S : SS FM) (o : Oper) : Option (List Prop × SS FM) := match o.op with
  | .call { callee := .builtin .append, args := ⟨[x, y]⟩, argTypes := ⟨[t, t']⟩ } => bif Nat.beq t t' then match X.P.underlying t with
    | some (.slice e) => (asc X.fm e).bind fun j => bif (FM j).deep then match evS X S (some t) y with
      | some (.v (.one (.sc idY _ _ _ _))) => match pcAt (wfz S.m) idY with
        | some (kY, .sl _ _ _ c _ _) => match dn0 c with
          | some _ => (fzLast (wfz S.m)).bind fun f => (frzAll (wfz S.m) (some f) (inIds c)).bind fun m1 => (packK S.E m1.1 kY f j).map fun m2 => (m2.2, ⟨S.T, S.E, m2.1, S.V, S.R⟩)
          | none => none
        | _ => none
      | _ => none
      else none
    | _ => none else none
  | _ => none
/-- Records that hold slices, out of a row of the call's own: out of what piece (or out of what was handed in) it is known that their slices stand. -/
def altL {α : Type} : List (Prop × α) → (α → Prop) → Prop
  | [], _ => False
  | [(p, s)], K => p ∧ K s
  | (p, s) :: x :: r, K => (p ∧ K s) ∨ altL (x :: r) K
def dalts (S : SS FM) (d : Option Nat) (j : Nat) (e : (FM j).α) (v : SV FM) (x : List Ad) (y : List (Nat × Ce FM)) : List (Prop × SS FM) :=
  (match fzC S.m with
    | some (k, rs, ds) => match dsJ j ds with
      | [] => []
      | l => [(memL e l, ⟨setT S.T d (some (.v v)), S.E ++ x, (nrmF S.m).set k (.fz (y ++ rs) ds), S.V, S.R⟩)]
    | none => []) ++
  (match dsJ j (dsR S.R) with
    | [] => []
    | l => [(memL e l, ⟨setT S.T d (some (.v v)), S.E ++ x, S.m, S.V, y ++ S.R⟩)])
def dldM (X : Cx) (S : SS FM) (o : Oper) : Option (List Prop × List (Prop × SS FM)) := match o.op with
  | .load ty y => match evS X S none y with
    | some (.v (.one (.qt id 0 i st o2))) => match pcAt S.m id with
      | some (_, .sl _ _ _ [.f j l m] _ _) => bif (FM j).deep && Nat.beq st (FM j).sz then
          match aggB X.P ty with
          | some true => (sizeB X.P ty).bind fun n => (c0sub ((FM j).sg (l.getD i (FM j).d)) o2 n).bind fun r => match dcells (FM := FM) ((FM j).inn (l.getD i (FM j).d)) o2 S.E.length r with
            | (_, _, []) => none
            | (c, x, y :: ys) => some ([i < m], dalts S o.dst j (l.getD i (FM j).d) (.ag c) x (y :: ys))
          | some false => (c0sub ((FM j).sg (l.getD i (FM j).d)) o2 1).bind fun r => match dcells (FM := FM) ((FM j).inn (l.getD i (FM j).d)) o2 S.E.length r with
            | ([.b (.cl c)], x, y :: ys) => some ([i < m], dalts S o.dst j (l.getD i (FM j).d) (.one c) x (y :: ys))
            | _ => none
          | none => none
        else none
      | _ => none
    | _ => none
  | _ => none
/-- A slice is put into a record of a row of the call's own: ahead of it, it is no longer written. -/
def dfzQ (X : Cx) (S : SS FM) (o : Oper) : Option (SS FM) := match o.op with
  | .store ty _ z => match evS X S (some ty) z with
    | some (.v v) => (fzLast (wfz S.m)).bind fun f => (frzAll (wfz S.m) (some f) (inIds v.ce)).map fun m1 => ⟨S.T, S.E, nrmF m1.1, S.V, S.R⟩
    | _ => none
  | _ => none
def putQ (X : Cx) (S : SS FM) (o : Oper) : Option (List Prop × (j : Nat) × List (FM j).α × (List (FM j).α → SS FM)) := match o.op, o.dst with
  | .store ty y z, none => match evS X S none y, evS X S (some ty) z, sizeB X.P ty with
    | some (.v (.one (.qt id 0 i st o2))), some (.v v), some n => match pcAt S.m id, fzLast S.m with
      | some (k, .sl id' n0 q [.f j l len] e s), some f => match S.m[f]? with
        | some (.fz rs ds) => bif Nat.beq st (FM j).sz && Nat.beq (cn v.ce) n && cok S.E.length v.ce && Nat.ble 1 n then
            (cput (up0 ((FM j).sg (l.getD i (FM j).d))) o2 v.ce).bind fun c' => (dcFz S.E rs c').bind fun (D, φ) => match dchk (FM j) 2 D with
              | some [a] => some ((i < len) :: φ, ⟨j, l.set i a, fun l' => ⟨S.T, S.E, (S.m.set k (.sl id' n0 q [.f j l' len] e s)).set f (.fz rs ([.f j [a] 1] :: ds)), S.V, S.R⟩⟩)
              | _ => none
          else none
        | _ => none
      | _, _ => none
    | _, _, _ => none
  | _, _ => none
def cpQ (X : Cx) (S : SS FM) (o : Oper) : XU FM := match o.op with
  | .call { callee := .builtin .copy, args := ⟨[x, y]⟩, argTypes := ⟨[t, t']⟩ } => bif Nat.beq t t' then cpX X S o.dst t x y else none
  | _ => none
def mkQ (X : Cx) (S : SS FM) (o : Oper) : XM FM := match o.op with
  | .makeSlice t x y => mkX X S o.dst t x y
  | _ => none
def bsQ (X : Cx) (S : SS FM) (o : Oper) : XV FM := match o.op with
  | .convert src dst x => bsX X S src dst x
  | _ => none
/-- The classes of conversions, which hang on types. -/
def convOv (P : Program) : Nat → List Oper → List (Nat × Nat)
  | _, [] => []
  | i, o :: r => match o.op with
    | .convert src dst _ => match P.underlying src, P.underlying dst with
      | some (.slice _), some .string => (i, 1) :: convOv P (i + 1) r
      | some (.slice _), some (.slice _) => (i, 3) :: convOv P (i + 1) r
      | some .string, some (.slice _) => (i, 2) :: convOv P (i + 1) r
      | _, _ => convOv P (i + 1) r
    | _ => convOv P (i + 1) r

/-! ### Calls -/
def evTvs (X : Cx) (S : SS FM) : List Operand → List TypeId → Option (List (TV FM))
  | [], _ => some []
  | x :: r, t :: ts => match evS X S (some t) x, evTvs X S r ts with
    | some v, some l => some (v :: l)
    | _, _ => none
  | x :: r, [] => match evS X S none x, evTvs X S r [] with
    | some v, some l => some (v :: l)
    | _, _ => none
def callT (X : Cx) (S : SS FM) (o : Oper) : Option (FuncId × List (TV FM)) := match o.op with
  | .call c => match c.callee with
    | .value f => match evS X S none f, evTvs X S c.args.toList c.argTypes.toList with
      | some (.fn g a b), some l => some (g, a.map .v ++ (l ++ b.map .v))
      | _, _ => none
    | _ => none
  | _ => none
def callOk (P : Program) (f : FuncId) : Bool := match P.funcs[f]? with
  | some fn => !(fn.name == "runtime.NumGoroutine") && fn.body.isSome
  | none => false
def findC {P : Program} (S : SS FM) (f : FuncId) (l : List (TV FM)) : List (Con P FM) → Option (List Prop × PS FM)
  | [] => none
  | c :: r => bif Nat.beq c.f f then (match sgMch S c.sig l with
      | some (x, φ) => some (φ ++ c.pre x, c.post x)
      | none => findC S f l r)
    else findC S f l r

/-! ### The walk -/
def putS (S : SS FM) (d : Option Nat) (v : TV FM) (x : List (Ad × Vw)) : SS FM := ⟨setT S.T d (some v), S.E ++ x.map (·.1), S.m, x.map (·.2) ++ S.V, S.R⟩
def wfck (S : SS FM) (y : List Ad) (v : TV FM) (m : List (Pc FM)) : Bool := v.lt (S.E.length + y.length) && mlt (S.E.length + y.length) m && mbk (S.E ++ y) m

def memF (f : Nat) : List Nat → Bool
  | [] => false
  | x :: r => Nat.beq x f || memF f r
/-- Calls that are gone through in place may do anything. -/
def inlOv (inl : List Nat) : Nat → List Oper → List (Nat × Nat)
  | _, [] => []
  | i, o :: r => match o.op with
    | .call c => match c.callee with
      | .value (.func f) => bif memF f inl then (i, 3) :: inlOv inl (i + 1) r else inlOv inl (i + 1) r
      | .value _ => (i, 3) :: inlOv inl (i + 1) r
      | _ => inlOv inl (i + 1) r
    | _ => inlOv inl (i + 1) r
def ovA (rc : RC FM) (id : Nat) (ops : Array Oper) : List (Nat × Nat) := ascO rc.ov id ++ (convOv rc.X.P 0 ops.toList ++ inlOv rc.inl 0 ops.toList)
def argT : List (TV FM) → Nat → ST FM
  | [], _ => []
  | v :: r, i => (i, some v) :: argT r (i + 1)
def bindT : List Nat → List (TV FM) → ST FM → ST FM
  | p :: ps, v :: vs, T => bindT ps vs ((p, some v) :: T)
  | _, _, T => T
def psOk (n : Nat) : List Nat → Bool
  | [] => true
  | p :: ps => Nat.blt p n && psOk n ps
def mkD (b : Nat) : Deferred := { target := .collected b, args := #[] }
/-- Marks are come to when a function ends. -/
def takeM : List (Pc FM) → List Nat → Option (List (Pc FM))
  | m, [] => some m
  | m, id :: r => match pcAt m id with
    | some (k, .mk _ false) => takeM (m.set k (.mk id true)) r
    | _ => none
def isBusy : LoopState → Bool
  | .busy => true
  | _ => false
/-- A call of a round. -/
def yldT (X : Cx) (S : SS FM) (o : Oper) : Option (Nat × List (TV FM)) := match o.op with
  | .call c => match c.callee with
    | .value f => match evS X S none f, evTvs X S c.args.toList c.argTypes.toList with
      | some (.v (.one (.yl id))), some l => some (id, l)
      | _, _ => none
    | _ => none
  | _ => none
/-- A function that is gone through in place. -/
def inlB (P : Program) (inl : List Nat) (f : FuncId) : Option (Func × Code) := bif memF f inl then (match P.funcs[f]? with
  | some fn => match fn.body with
    | some c => some (fn, c)
    | none => none
  | none => none) else none
def kbS (S : SS FM) (x : Operand) (b : Bool) : SS FM := match x with
  | .tmp t => { S with T := kbT S.T t b }
  | _ => S
/-- Operations that are no quiet ones. -/
def noQ (P : Program) (o : Oper) : Bool := match o.op with
  | .call c => match c.callee with
    | .builtin .append => true
    | .builtin .copy => true
    | .value _ => true
    | _ => false
  | .makeSlice _ _ _ => true
  | .convert src dst _ => match P.underlying src, P.underlying dst with
    | some (.slice _), some .string => true
    | some .string, some (.slice _) => true
    | some (.slice _), some (.slice _) => true
    | _, _ => false
  | _ => false
def stepN (X : Cx) (S : SS FM) (o : Oper) : QR FM := bif noQ X.P o then none else stepQ X S o
theorem stepN_some {X : Cx} {S : SS FM} {o : Oper} {r : List Prop × TV FM × List (Ad × Vw)} (h : stepN X S o = some r) : stepQ X S o = some r := by
  unfold stepN at h
  cases hq : noQ X.P o with
  | true => rw [hq] at h; cases h
  | false => rw [hq] at h; exact h
/-- A run of numbers that was written at a place gets a name. -/
def nmP : Pc FM → Option (List Int × (List Int → Pc FM))
  | .bk i [.b (.iz k l n)] ty => some (l, fun q => .bk i [.b (.iz k q n)] ty)
  | .sl i n0 cap [.b (.iz k l n)] e s => some (l, fun q => .sl i n0 cap [.b (.iz k q n)] e s)
  | _ => none
theorem nmP_spec {p : Pc FM} {l : List Int} {f : List Int → Pc FM} (h : nmP p = some (l, f)) : f l = p := by
  unfold nmP at h
  split at h
  · simp only [Option.some.injEq, Prod.mk.injEq] at h
    obtain ⟨rfl, rfl⟩ := h; rfl
  · simp only [Option.some.injEq, Prod.mk.injEq] at h
    obtain ⟨rfl, rfl⟩ := h; rfl
  · cases h
def nmS (X : Cx) (S : SS FM) (o : Oper) (S' : SS FM) : Option (List Int × (List Int → SS FM)) := match o.op with
  | .store _ y _ => match evS X S none y with
    | some (.v (.one (.qt id _ _ _ _))) => match pcAt S'.m id with
      | some (k, p) => match nmP p with
        | some (l, f) => some (l, fun q => ⟨S'.T, S'.E, S'.m.set k (f q), S'.V, S'.R⟩)
        | none => none
      | none => none
    | _ => none
  | _ => none
theorem nmS_spec {X : Cx} {S S' : SS FM} {o : Oper} {l : List Int} {f : List Int → SS FM} (h : nmS X S o S' = some (l, f)) : f l = S' := by
  unfold nmS at h
  split at h
  · split at h
    · split at h
      · rename_i k p hp
        split at h
        · rename_i l' g hg
          simp only [Option.some.injEq, Prod.mk.injEq] at h
          obtain ⟨rfl, rfl⟩ := h
          have h1 := (pcAt_spec (E := []) hp).1
          simp only [nmP_spec hg]
          have : S'.m.set k p = S'.m := by
            obtain ⟨hk, he⟩ := List.getElem?_eq_some_iff.1 h1
            rw [← he]; exact List.set_getElem_self hk
          rw [this]
        · cases h
      · cases h
    · cases h
  · cases h
def resQ (X : Cx) (S : SS FM) : List ResultVar → Option (List Prop × List (SV FM))
  | [] => some ([], [])
  | .tmp t :: r => match lookS S.T t, resQ X S r with
    | some (.v v), some (φ, l) => some (φ, v :: l)
    | _, _ => none
  | .cell t ty :: r => match lookS S.T t, resQ X S r with
    | some (.v (.one (.pt id off))), some (φ, l) => bif isbk S.E id then (loadS X.P S ty (.pt id off)).map fun (ψ, v) => (ψ ++ φ, v :: l) else none
    | _, _ => none
def tupS : List (SV FM) → TV FM
  | [v] => .v v
  | l => .tup l
/-- What a call that is gone through comes to: a function too. -/
def resV (X : Cx) (S : SS FM) (rs : List ResultVar) : Option (List Prop × TV FM) := match resQ X S rs with
  | some (φ, vs) => some (φ, tupS vs)
  | none => match rs with
    | [.tmp t] => match lookS S.T t with
      | some (.fn f a b) => some ([], .fn f a b)
      | _ => none
    | _ => none
def newP (rc : RC FM) (R : Pt → List (Fr FM) → SS FM → Prop) (ops : Array Oper) (dr : Bool) (ov : List (Nat × Nat)) (i : Nat) (rest : OT) (fs : List (Fr FM)) (S : SS FM) (o : Oper) : Prop := match newC rc.X S o with
  | some (c, ty, none) => bif Nat.ble 2 (flR (roOf fs) dr ops ov i) && cok S.E.length c then ∀ b : Nat, R (.ops ops dr ov rest) fs ⟨setT S.T o.dst (some (.v (.one (.pt S.E.length 0)))), S.E ++ [.bk b], [.bk S.E.length c ty] ++ S.m, S.V, S.R⟩ else False
  | some (c, ty, some (n, s)) => bif Nat.ble 2 (flR (roOf fs) dr ops ov i) && cok S.E.length c then ∀ b : Nat, R (.ops ops dr ov rest) fs ⟨setT S.T o.dst (some (.v (.one (.sc S.E.length 0 n n false)))), S.E ++ [.bk b], [.sl S.E.length n n c ty s] ++ S.m, S.V, S.R⟩ else False
  | none => False
/-- Behind a function that was gone through in place. -/
def clEnd (rc : RC FM) (R : Pt → List (Fr FM) → SS FM → Prop) (ops : Array Oper) (dr : Bool) (ov : List (Nat × Nat)) (rest : OT) (dst : Option Nat) (T : ST FM) (fn : Func) (fs : List (Fr FM)) (S : SS FM) : Prop := match resV rc.X S fn.results.toList with
  | some (φ, v) => andL φ (R (.ops ops dr ov rest) fs ⟨setT T dst (some v), S.E, S.m, S.V, S.R⟩)
  | none => False
/-- Behind the function that was ranged over. -/
def rfEnd (R : Pt → List (Fr FM) → SS FM → Prop) (T : ST FM) (bD id : Nat) (fs : List (Fr FM)) (S : SS FM) : Prop := match pcAt S.m id with
  | some (k, .lp _ r st pd) => bif isBusy st then False else match pd with
    | none => R .nrm (.df [mkD bD] [Nat.pred id] :: fs) ⟨T, S.E, S.m.set k (.lp id r .exhausted none), S.V, S.R⟩
    | some (.exit i) => R (.ext i) (.df [mkD bD] [Nat.pred id] :: fs) ⟨T, S.E, S.m.set k (.lp id r .exhausted (some (.exit i))), S.V, S.R⟩
    | some .ret => R .ret (.df [mkD bD] [Nat.pred id] :: fs) ⟨T, S.E, S.m.set k (.lp id r .exhausted (some .ret)), S.V, S.R⟩
    | _ => False
  | _ => False
/-! ### Maps -/
/-- A type whose nought is the whole number 0. -/
def zi (P : Program) (V : TypeId) : Bool := match zvB P V with
  | some (.int .i64 z) => decide (z = 0)
  | _ => false
/-- A type of maps from arrays of bytes to whole numbers: the types of keys and of values, how long keys are. -/
def mapT (P : Program) (t : TypeId) : Option (TypeId × TypeId × Nat) := match P.underlying t with
  | some (.map K V) => match P.underlying K with
    | some (.array n _) => bif arrB P K n && zi P V then some (K, V, n) else none
    | _ => none
  | _ => none
def lookM (X : Cx) (S : SS FM) (o : Oper) : Option (TV FM) := match o.op with
  | .lookup t x k true => match mapT X.P t with
    | some (K, _, n) => match evS X S none x, evS X S (some K) k with
      | some (.v (.one (.mv id))), some (.v (.ag [.b (.iz .u8 ks n')])) => match pcAt S.m id with
        | some (_, .mp _ n0 l) => bif Nat.beq n n' && Nat.beq n n0 then some (.tup [.one (.xv (.int .i64 ((mLk ks l).getD 0))), .one (.xv (.bool (mLk ks l).isSome))]) else none
        | _ => none
      | _, _ => none
    | none => none
  | _ => none
def putM (X : Cx) (S : SS FM) (o : Oper) : Option (Prop × SS FM) := match o.op with
  | .mapUpdate t x k y => match mapT X.P t, o.dst with
    | some (K, V, n), none => match evS X S none x, evS X S (some K) k, evS X S (some V) y with
      | some (.v (.one (.mv id))), some (.v (.ag [.b (.iz .u8 ks n')])), some (.v (.one (.xv (.int .i64 v)))) => match pcAt S.m id with
        | some (j, .mp id' n0 l) => bif Nat.beq n n' && Nat.beq n n0 then some (mLk ks l = none, ⟨S.T, S.E, S.m.set j (.mp id' n0 (l ++ [(ks, v)])), S.V, S.R⟩) else none
        | _ => none
      | _, _, _ => none
    | _, _ => none
  | _ => none
def mkM (X : Cx) (S : SS FM) (o : Oper) : Option (Nat → SS FM) := match o.op with
  | .makeMap t none => (mapT X.P t).map fun q b => ⟨setT S.T o.dst (some (.v (.one (.mv S.E.length)))), S.E ++ [.bk b], [.mp S.E.length q.2.2 []] ++ S.m, S.V, S.R⟩
  | _ => none
/-! ### Regions in which loads and stores stand in no order: what is stored to is parted from what is read -/
def isIn (D : List Nat) (p : Pc FM) : Bool := match p.id? with
  | some i => memF i D
  | none => false
def dpt (D : List Nat) : List (Pc FM) → List (Pc FM)
  | [] => []
  | p :: m => bif isIn D p then p :: dpt D m else dpt D m
def cpt (D : List Nat) : List (Pc FM) → List (Pc FM)
  | [] => []
  | p :: m => bif isIn D p then cpt D m else p :: cpt D m
/-- What can be read of pieces. -/
def rOfM : List (Pc FM) → List (Nat × Ce FM)
  | [] => []
  | .bk id c _ :: m => bif noF c then (id, c) :: rOfM m else rOfM m
  | .sl id _ _ c _ _ :: m => bif noF c then (id, c) :: rOfM m else rOfM m
  | .rd id c :: m => bif noF c then (id, c) :: rOfM m else rOfM m
  | .fz rs _ :: m => rs ++ rOfM m
  | .pr _ :: m => rOfM m
  | .lp _ _ _ _ :: m => rOfM m
  | .mk _ _ :: m => rOfM m
  | .mp _ _ _ :: m => rOfM m
/-- What a temporary holds, as far as it is known ahead of a region. -/
def resT (X : Cx) (S : SS FM) (ops : List Oper) : Nat → Operand → Option (TV FM)
  | 0, _ => none
  | f + 1, x => match evS X S none x with
    | some v => some v
    | none => match x with
      | .tmp t => match ops.find? fun o => o.dst == some t with
        | some o => match o.op with
          | .move y => resT X S ops f y
          | .assign y => resT X S ops f y
          | _ => none
        | none => none
      | _ => none
/-- What block an address is of, as far as it is known ahead of a region. -/
def adrT (X : Cx) (S : SS FM) (ops : List Oper) : Nat → Operand → Option Nat
  | 0, _ => none
  | f + 1, x => match evS X S none x with
    | some (.v (.one (.pt id _))) => some id
    | some _ => none
    | none => match x with
      | .tmp t => match ops.find? fun o => o.dst == some t with
        | some o => match o.op with
          | .move y => adrT X S ops f y
          | .assign y => adrT X S ops f y
          | .nilCheck y => adrT X S ops f y
          | .fieldAddr _ y _ => adrT X S ops f y
          | .indexAddr _ y _ => adrT X S ops f y
          | _ => none
        | none => none
      | _ => none
/-- What is stored to and was there. -/
def addI (id : Nat) (l : List Nat) : List Nat := bif memF id l then l else id :: l
def dIds (X : Cx) (S : SS FM) (ops : List Oper) : List Oper → List Nat
  | [] => []
  | o :: r => match o.op with
    | .store _ y _ => match adrT X S ops 9 y with
      | some id => addI id (dIds X S ops r)
      | none => dIds X S ops r
    | .call { callee := .builtin .append, args := ⟨x :: _⟩, argTypes := _ } => match resT X S ops 9 x with
      | some (.v (.one (.sc id _ _ _ _))) => addI id (dIds X S ops r)
      | _ => dIds X S ops r
    | _ => dIds X S ops r
def stOv : Nat → List Oper → List (Nat × Nat)
  | _, [] => []
  | i, o :: r => match o.op with
    | .store _ _ _ => (i, 2) :: stOv (i + 1) r
    | .call { callee := .builtin .append, args := _, argTypes := _ } => (i, 2) :: stOv (i + 1) r
    | _ => stOv (i + 1) r
/-- The pieces in their order again: the new ones in front, in the order of the operations that made them. -/
def opIds (n0 : Nat) (T : ST FM) : List Oper → List Nat
  | [] => []
  | o :: r => match o.dst.bind (lookS T) with
    | some (.v (.one (.pt id 0))) => bif Nat.ble n0 id && !(memF id (opIds n0 T r)) then id :: opIds n0 T r else opIds n0 T r
    | some (.v (.one (.sc id 0 _ _ _))) => bif Nat.ble n0 id && !(memF id (opIds n0 T r)) then id :: opIds n0 T r else opIds n0 T r
    | _ => opIds n0 T r
def newIx (ids : List Nat) : Nat → List (Pc FM) → List Nat
  | _, [] => []
  | i, p :: m => match p.id? with
    | some id => bif memF id ids then newIx ids (i + 1) m else i :: newIx ids (i + 1) m
    | none => i :: newIx ids (i + 1) m
def idIx (m : List (Pc FM)) : List Nat → List Nat → List Nat
  | [], l => l
  | id :: r, l => match pcAt m id with
    | some (k, _) => idIx m r (k :: l)
    | none => idIx m r l
def orgIx (D : List Nat) : Nat → Nat → List (Pc FM) → List Nat
  | _, _, [] => []
  | d, c, p :: r => bif isIn D p then d :: orgIx D (d + 1) c r else c :: orgIx D d (c + 1) r
def pickM (L : List (Pc FM)) : List Nat → Option (List (Pc FM))
  | [] => some []
  | k :: r => match L[k]?, pickM L r with
    | some p, some l => some (p :: l)
    | _, _ => none
def nodupN : List Nat → Bool
  | [] => true
  | k :: r => !(memF k r) && nodupN r
def mrgIx (D ids : List Nat) (m0 m1 : List (Pc FM)) : List Nat :=
  newIx ids 0 (m1.take (m1.length - (dpt D m0).length)) ++ (idIx (m1.take (m1.length - (dpt D m0).length)) ids [] ++ orgIx D (m1.length - (dpt D m0).length) m1.length m0)
def mrgD (D : List Nat) (ids : List Nat) (m0 m1 : List (Pc FM)) : Option (List (Pc FM)) := bif nodupN (mrgIx D ids m0 m1) then pickM (m1 ++ cpt D m0) (mrgIx D ids m0 m1) else none
/-- A new block, and what then. -/
def newK (X : Cx) (S : SS FM) (o : Oper) (K : SS FM → Prop) : Prop := match newC X S o with
  | some (c, ty, none) => bif cok S.E.length c then ∀ b : Nat, K ⟨setT S.T o.dst (some (.v (.one (.pt S.E.length 0)))), S.E ++ [.bk b], [.bk S.E.length c ty] ++ S.m, S.V, S.R⟩ else False
  | some (c, ty, some (n, s)) => bif cok S.E.length c then ∀ b : Nat, K ⟨setT S.T o.dst (some (.v (.one (.sc S.E.length 0 n n false)))), S.E ++ [.bk b], [.sl S.E.length n n c ty s] ++ S.m, S.V, S.R⟩ else False
  | none => False
def drun (rc : RC FM) (N : Nat) (ops : Array Oper) (cl : Nat → Nat) : OT → SS FM → (SS FM → Prop) → Prop
  | .nil, S, K => K S
  | .br t u, S, K => drun rc N ops cl t S K ∧ drun rc N ops cl u S K
  | .s i rest, S, K => match ops[i]? with
    | none => False
    | some o => bif !(dstOk N o.dst) then False else match gst S.T ops o with
      | some .skip => drun rc N ops cl rest { S with T := setT S.T o.dst (skV ops i) } K
      | some .want => match o.op with
        | .store ty y z => match evS rc.X S none y, evS rc.X S (some ty) z, sizeB rc.X.P ty, o.dst with
          | some (.v (.one (.pt id off))), some (.v v), some n, none => match pcAt S.m id with
            | some (k, .bk j c t) => bif Nat.beq (cl i) 2 && Nat.beq (cn v.ce) n && cok S.E.length v.ce then (match cput c off v.ce with
                | some c' => drun rc N ops cl rest { S with m := S.m.set k (.bk j c' t) } K
                | none => False) else False
            | _ => False
          | _, _, _, _ => False
        | .alloc _ => bif Nat.ble 2 (cl i) then newK rc.X S o (fun S' => drun rc N ops cl rest S' K) else False
        | .box _ _ => bif Nat.ble 2 (cl i) then newK rc.X S o (fun S' => drun rc N ops cl rest S' K) else False
        | .buildSlice _ _ _ => bif Nat.ble 2 (cl i) then newK rc.X S o (fun S' => drun rc N ops cl rest S' K) else False
        | _ => match stepN rc.X ⟨S.T, S.E, [], S.V, S.R⟩ o with
          | some (φ, v, x) => bif Nat.ble (cl i) 1 && (!(isLd o.op) || Nat.beq (cl i) 1) then andL φ (drun rc N ops cl rest (putS S o.dst v x) K) else False
          | none => match dapQ rc.X S o with
            | some (φ0, S2) => match appQ rc.X S2 o with
              | some (φ, hy, g) => bif Nat.beq (cl i) 2 then andL φ0 (andL φ (∀ A : Option Addr, ∀ q : Nat, impL (hy q) (drun rc N ops cl rest (g A q) K))) else False
              | none => False
            | none => match appQ rc.X S o with
            | some (φ, hy, g) => bif Nat.beq (cl i) 2 then andL φ (∀ A : Option Addr, ∀ q : Nat, impL (hy q) (drun rc N ops cl rest (g A q) K)) else False
            | none => match callT rc.X S o with
            | some (f, l) => match findC S f l rc.cons with
              | some (φ, p) => bif Nat.ble 2 (cl i) && tvs1 l && callOk rc.X.P f then andL φ (∀ y : p.Y, bif wfck S (p.E y) ((p.ret y).sh S.E.length) (msh S.E.length (p.m y)) then
                  impL ((p.ret y).hy ++ (mhy (p.m y) ++ p.fact y)) (drun rc N ops cl rest ⟨setT S.T o.dst (some ((p.ret y).sh S.E.length)), S.E ++ p.E y, msh S.E.length (p.m y) ++ S.m, S.V, S.R⟩ K) else False) else False
              | none => False
            | none => False
      | _ => False
/-- New blocks of a region in the order of the operations, whatever order was drawn. -/
def nwIds (T : ST FM) : List Oper → List Nat
  | [] => []
  | o :: r => match o.op with
    | .alloc _ => match o.dst.bind (lookS T) with
      | some (.v (.one (.pt id 0))) => id :: nwIds T r
      | _ => nwIds T r
    | .box _ _ => match o.dst.bind (lookS T) with
      | some (.v (.one (.pt id 0))) => id :: nwIds T r
      | _ => nwIds T r
    | _ => nwIds T r
def othIx (ids : List Nat) : Nat → List (Pc FM) → List Nat
  | _, [] => []
  | i, p :: m => match p.id? with
    | some id => bif memF id ids then othIx ids (i + 1) m else i :: othIx ids (i + 1) m
    | none => i :: othIx ids (i + 1) m
def srtM (ids : List Nat) (m : List (Pc FM)) : List (Pc FM) := match ids with
  | _ :: _ :: _ => bif nodupN (idIx m ids [] ++ othIx ids 0 m) then (match pickM m (idIx m ids [] ++ othIx ids 0 m) with
      | some m' => m'
      | none => m) else m
  | _ => m
def srtS (dr : Bool) (ops : Array Oper) (S : SS FM) : SS FM := bif dr then ⟨S.T, S.E, srtM (nwIds S.T ops.toList) S.m, S.V, S.R⟩ else S
/-- An array of slices, at an index that is not known: each of its places. -/
def idxE (P : Program) (e : TypeId) (c : Ce FM) (s : Nat) : Nat → Nat → Option (List (SV FM))
  | 0, _ => some []
  | n + 1, p => match ldS P e (csub c (p * s)), idxE P e c s n (p + 1) with
    | some v, some l => some (v :: l)
    | _, _ => none
def idxM (X : Cx) (S : SS FM) (o : Oper) : Option (Int × Nat × List (SV FM)) := match o.op with
  | .index t x ix => match evS X S none ix, X.P.underlying t, evS X S (some t) x with
    | some (.v (.one (.xv (.int _ n)))), some (.array len e), some (.v (.ag c)) => (sizeB X.P e).bind fun s => bif Nat.ble len 8 then (idxE X.P e c s len 0).map fun l => (n, len, l) else none
    | _, _, _ => none
  | _ => none
def caseV (n : Int) : Nat → List (SV FM) → (SV FM → Prop) → Prop
  | _, [], _ => True
  | p, v :: r, K => (n = (p : Int) → K v) ∧ caseV n (p + 1) r K
/-- A block is read that is stored to: all orders are gone through. -/
def ldOv : Nat → List Oper → List (Nat × Nat)
  | _, [] => []
  | i, o :: r => match o.op with
    | .load _ _ => (i, 3) :: ldOv (i + 1) r
    | _ => ldOv (i + 1) r
def selfLd (X : Cx) (S : SS FM) (ops : List Oper) : List Oper → Bool
  | [] => false
  | o :: r => match o.op with
    | .load _ y => match adrT X S ops 9 y with
      | some id => memF id (dIds X S ops ops) || selfLd X S ops r
      | none => selfLd X S ops r
    | _ => selfLd X S ops r
/-- How many rounds of a loop are gone through one by one. -/
def unK (rc : RC FM) (fs : List (Fr FM)) (a : Code) : Nat := match fid a with
  | some k => match ascO rc.ov (keyF k fs + 50000) with
    | (n, _) :: _ => n
    | [] => 0
  | none => 0
/-- The pieces, put in an order that was told, ahead of a region. -/
def pmS (rc : RC FM) (fs : List (Fr FM)) (id : Nat) (S : SS FM) : SS FM := match ascO rc.ov (keyF id fs + 60000) with
  | [] => S
  | l => bif nodupN (l.map (·.1)) then (match pickM S.m (l.map (·.1)) with
    | some m => ⟨S.T, S.E, m, S.V, S.R⟩
    | none => S) else S
def step (rc : RC FM) (R : Pt → List (Fr FM) → SS FM → Prop) : Pt → List (Fr FM) → SS FM → Prop
  | .code c, fs, S => match c with
    | .skip => R .nrm fs S
    | .seq a b => match (fid b).bind (fun k => ascF rc.Ca (keyF k fs)) with
      | none => R (.code a) (.sq b :: fs) S
      | some A => R (.code a) (.hd (A S) S (wrC a) none :: fs) S ∧ ∀ y : (A S).α, bif (A S).ck S y then impL (sthy ((A S).T S.E.length y) ++ (mhy ((A S).m S.E.length y) ++ (A S).inv y)) (R (.code b) fs ((A S).hd S (wrC a) y)) else False
    | .cond x a b => match evS rc.X S none x with
      | some (.v (.one (.kb true))) => R (.code a) fs S
      | some (.v (.one (.kb false))) => R (.code b) fs S
      | some (.v (.one (.xv (.bool g)))) => (g = true → R (.code a) fs (kbS S x true)) ∧ (g = false → R (.code b) fs (kbS S x false))
      | _ => False
    | .block i a => R (.code a) (.blk i :: fs) S
    | .loop a => match unK rc fs a with
      | n + 1 => R (.code a) (.lu a (n + 1) :: fs) S
      | 0 => match (fid a).bind (fun k => ascF rc.La (keyF k fs)) with
      | none => False
      | some A => (∃ y : (A S).α, bif (A S).ck S y && (A S).ck1 S S [] y then conj ((A S).eqs S S y ++ (A S).inv y) else False) ∧
          ∀ y : (A S).α, bif (A S).ck S y then impL (sthy ((A S).T S.E.length y) ++ (mhy ((A S).m S.E.length y) ++ (A S).inv y)) (R (.code a) (.hd (A S) S (wrC a) (some ((A S).mu y)) :: fs) ((A S).hd S (wrC a) y)) else False
    | .exit i => R (.ext i) fs S
    | .ret => R .ret fs S
    | .region id ops true => bif noDefer ops && Region.noSelect ops && okT ops (flD true ops (ovA rc id ops)) false (Array.replicate ops.size false) (ordOf ops (flD true ops (ovA rc id ops))) && rc.X.P.follows .mixedOrders then
        R (.ops ops true (ovA rc id ops) (ordOf ops (flD true ops (ovA rc id ops)))) (.np :: fs) S
      else bif (selfLd rc.X S ops.toList ops.toList || !(inlOv rc.inl 0 ops.toList).isEmpty) && Nat.ble ops.size 9 && (noDefer ops && Region.noSelect ops && okT ops (flD true ops (ldOv 0 ops.toList ++ ovA rc id ops)) false (Array.replicate ops.size false) (ordOf ops (flD true ops (ldOv 0 ops.toList ++ ovA rc id ops))) && rc.X.P.follows .mixedOrders) then
        R (.ops ops true (ldOv 0 ops.toList ++ ovA rc id ops) (ordOf ops (flD true ops (ldOv 0 ops.toList ++ ovA rc id ops)))) (.np :: fs) S
      else bif noDefer ops && Region.noSelect ops && okT ops (flD true ops (stOv 0 ops.toList ++ ovA rc id ops)) false (Array.replicate ops.size false) (ordOf ops (flD true ops (stOv 0 ops.toList ++ ovA rc id ops))) && rc.X.P.follows .mixedOrders then
        drun rc (nOf rc.N fs) ops (clD true ops (stOv 0 ops.toList ++ ovA rc id ops)) (ordOf ops (flD true ops (stOv 0 ops.toList ++ ovA rc id ops))) ⟨S.T, S.E, dpt (dIds rc.X S ops.toList ops.toList) S.m, S.V, rOfM (cpt (dIds rc.X S ops.toList ops.toList) S.m) ++ S.R⟩
          (fun S1 => match mrgD (dIds rc.X S ops.toList ops.toList) (opIds S.E.length S1.T ops.toList) S.m S1.m with
            | some m => R .nrm (.np :: fs) ⟨S1.T, S1.E, nrmF m, S1.V, S.R⟩
            | none => False)
      else False
    | .rangeFunc f ps a b => match evS rc.X S none f with
      | some (.fn g x y) => match inlB rc.X.P rc.inl g with
        | some (fn, c) => bif (roOf fs).isNone && callOk rc.X.P g && Nat.ble (x.length + (1 + y.length)) fn.ntmps && Nat.beq fn.results.size 0 && psOk (nOf rc.N fs).n ps.toList then
            ∀ (bD bl : Nat) (r : Loop), R (.code c) (.rf S.T S.E g fn (S.E.length + 1) r bl bD ps a b (nOf rc.N fs).n (keyB fs) :: fs) ⟨argT (x.map .v ++ (.v (.one (.yl (S.E.length + 1))) :: y.map .v)) 0, S.E ++ [.bk bD, .bk bl], .lp (S.E.length + 1) r .ready none :: .mk S.E.length false :: S.m, S.V, S.R⟩
          else False
        | none => False
      | _ => False
    | .region id ops false => bif noDefer ops then R (.ops ops false (ovA rc id ops) (rng 0 ops.size)) fs (pmS rc fs id S) else False
    | _ => False
  | .ops ops dr _ .nil, fs, S => R .nrm fs (srtS dr ops S)
  | .ops ops dr ov (.br t u), fs, S => R (.ops ops dr ov t) fs S ∧ R (.ops ops dr ov u) fs S
  | .ops ops dr ov (.s i rest), fs, S => match ops[i]? with
    | none => False
    | some o => bif !(dstOk (nOf rc.N fs) o.dst) then False else
      match gst S.T ops o with
      | none => False
      | some .skip => R (.ops ops dr ov rest) fs { S with T := setT S.T o.dst (skV ops i) }
      | some (.ask t g) => match findPick ops t 60 (.s i rest) with
          | some (k + 1) => match qrun rc.X (nOf rc.N fs) ops (flR (roOf fs) dr ops ov) S (k + k + 9) (k + 1) (.s i rest) S.T with
            | some (φ, T') => andL φ (R (.ops ops dr ov (dropO (k + 1) (.s i rest))) fs { S with T := T' })
            | none => (g = true → R (.ops ops dr ov (.s i rest)) fs { S with T := kbT S.T t true }) ∧ (g = false → R (.ops ops dr ov (.s i rest)) fs { S with T := kbT S.T t false })
          | _ => (g = true → R (.ops ops dr ov (.s i rest)) fs { S with T := kbT S.T t true }) ∧ (g = false → R (.ops ops dr ov (.s i rest)) fs { S with T := kbT S.T t false })
      | some .want => match o.op with
        | .pick (.tmp c) a b => match pickQ rc.X S c a b o.type with
          | some v => bif Nat.ble (flR (roOf fs) dr ops ov i) 1 then R (.ops ops dr ov rest) fs (putS S o.dst v []) else False
          | none => match lookS S.T c with
            | some (.v (.one (.xv (.bool g)))) => (g = true → R (.ops ops dr ov (.s i rest)) fs { S with T := kbT S.T c true }) ∧ (g = false → R (.ops ops dr ov (.s i rest)) fs { S with T := kbT S.T c false })
            | _ => False
        | .store _ _ _ => match stS rc.X S o with
          | some (φ, S') => bif Nat.beq (flR (roOf fs) dr ops ov i) 3 then andL φ (match nmS rc.X S o S' with
              | some (l, f) => ∀ q : List Int, q = l → R (.ops ops dr ov rest) fs (f q)
              | none => R (.ops ops dr ov rest) fs S') else False
          | none => match (dfzQ rc.X S o).bind (fun S2 => putQ rc.X S2 o) with
            | some (φ, ⟨_, l, g⟩) => bif Nat.beq (flR (roOf fs) dr ops ov i) 3 then andL φ (∀ q, q = l → R (.ops ops dr ov rest) fs (g q)) else False
            | none => False
        | .panic x => match evS rc.X S none x with
          | some (.v (.one (.xv (.iface ty v)))) => bif Nat.beq (flR (roOf fs) dr ops ov i) 3 then R (.pan (.xv (.iface ty v))) fs S else False
          | _ => False
        | .alloc _ => newP rc R ops dr ov i rest fs S o
        | .box _ _ => newP rc R ops dr ov i rest fs S o
        | .makeMap _ _ => match mkM rc.X S o with
          | some g => bif Nat.ble 2 (flR (roOf fs) dr ops ov i) then ∀ b : Nat, R (.ops ops dr ov rest) fs (g b) else False
          | none => False
        | .lookup _ _ _ _ => match lookM rc.X S o with
          | some v => bif Nat.beq (flR (roOf fs) dr ops ov i) 1 then R (.ops ops dr ov rest) fs (putS S o.dst v []) else False
          | none => False
        | .mapUpdate _ _ _ _ => match putM rc.X S o with
          | some (φ, S') => bif Nat.beq (flR (roOf fs) dr ops ov i) 3 then φ ∧ R (.ops ops dr ov rest) fs S' else False
          | none => False
        | .buildSlice _ _ _ => newP rc R ops dr ov i rest fs S o
        | _ => match dldQ rc.X S o with
          | some (φ, v, x, y) => bif Nat.beq (flR (roOf fs) dr ops ov i) 1 then andL φ (R (.ops ops dr ov rest) fs ⟨setT S.T o.dst (some (.v v)), S.E ++ x, S.m, S.V, y ++ S.R⟩) else False
          | none => match dldM rc.X S o with
          | some (φ, l) => bif Nat.beq (flR (roOf fs) dr ops ov i) 1 then andL φ (altL l (R (.ops ops dr ov rest) fs)) else False
          | none => match stepN rc.X S o with
          | some (φ, v, x) => bif (Nat.ble (flR (roOf fs) dr ops ov i) 1 && (!(isLd o.op) || Nat.beq (flR (roOf fs) dr ops ov i) 1)) || Nat.beq (flR (roOf fs) dr ops ov i) 3 then andL φ (R (.ops ops dr ov rest) fs (putS S o.dst v x)) else False
          | none => match idxM rc.X S o with
          | some (n, len, l) => bif Nat.ble (flR (roOf fs) dr ops ov i) 1 then (0 ≤ n ∧ n < (len : Int)) ∧ caseV n 0 l (fun v => R (.ops ops dr ov rest) fs (putS S o.dst (.v v) [])) else False
          | none => match dapQ rc.X S o with
            | some (φ0, S2) => match appQ rc.X S2 o with
              | some (φ, hy, g) => bif Nat.beq (flR (roOf fs) dr ops ov i) 3 then andL φ0 (andL φ (∀ A : Option Addr, ∀ q : Nat, impL (hy q) (R (.ops ops dr ov rest) fs (g A q)))) else False
              | none => False
            | none => match appQ rc.X S o with
            | some (φ, hy, g) => bif Nat.beq (flR (roOf fs) dr ops ov i) 3 then andL φ (∀ A : Option Addr, ∀ q : Nat, impL (hy q) (R (.ops ops dr ov rest) fs (g A q))) else False
            | none => match mkQ rc.X S o with
            | some (φ, g) => bif Nat.ble 2 (flR (roOf fs) dr ops ov i) then andL φ (∀ A : Option Addr, R (.ops ops dr ov rest) fs (g A)) else False
            | none => match cpQ rc.X S o with
            | some (φ, S') => bif Nat.beq (flR (roOf fs) dr ops ov i) 3 then andL φ (R (.ops ops dr ov rest) fs S') else False
            | none => match bsQ rc.X S o with
            | some (φ, v) => bif Nat.beq (flR (roOf fs) dr ops ov i) 1 then andL φ (R (.ops ops dr ov rest) fs (putS S o.dst v [])) else False
            | none => match callT rc.X S o with
            | some (f, l) => match findC S f l rc.cons with
              | some (φ, p) => bif Nat.ble 2 (flR (roOf fs) dr ops ov i) && tvs1 l && callOk rc.X.P f then andL φ (∀ y : p.Y, bif wfck S (p.E y) ((p.ret y).sh S.E.length) (msh S.E.length (p.m y)) then
                  impL ((p.ret y).hy ++ (mhy (p.m y) ++ p.fact y)) (R (.ops ops dr ov rest) fs ⟨setT S.T o.dst (some ((p.ret y).sh S.E.length)), S.E ++ p.E y, nrmF (msh S.E.length (p.m y) ++ S.m), S.V, S.R⟩) else False) else False
              | none => match inlB rc.X.P rc.inl f with
                | some (fn, c) => bif Nat.beq (flR (roOf fs) dr ops ov i) 3 && callOk rc.X.P f && Nat.ble l.length fn.ntmps && Nat.ble fn.results.toList.length 4 then
                    R (.code c) (.cl ops dr ov rest o.dst S.T S.E f fn :: fs) ⟨argT l 0, S.E, S.m, S.V, S.R⟩ else False
                | none => False
            | none => match yldT rc.X S o with
              | some (id, l) => match rfOf fs id, pcAt S.m id with
                | some (T0, ps, a, b, r0, bl, n0, kb0), some (k, .lp _ r .ready none) => bif Nat.beq (flR (roOf fs) dr ops ov i) 3 && Nat.beq l.length ps.size then
                    r = r0 ∧ R (.code a) (.as b id bl :: .yd ops dr ov rest o.dst S.T S.E id bl n0 kb0 :: fs) ⟨bindT ps.toList l T0, S.E, S.m, S.V, S.R⟩ else False
                | _, _ => False
              | none => False
  | .nrm, [], S => rc.fin S
  | .nrm, .sq c :: fs, S => R (.code c) fs S
  | .nrm, .lx _ :: _, _ => False
  | .nrm, .lu a n :: fs, S => match n with
    | 0 => False
    | 1 => match a with
      | .seq r (.seq c b) => R (.code r) (.sq c :: .lx b :: fs) S
      | .seq c b => R (.code c) (.lx b :: fs) S
      | _ => False
    | n + 2 => R (.code a) (.lu a (n + 1) :: fs) S
  | .nrm, .blk _ :: fs, S => R .nrm fs S
  | .nrm, .np :: fs, S => R .nrm fs S
  | .nrm, .hd L S0 ws m0 :: _, S => ∃ y : L.α, bif L.ck S0 y && L.ck1 S0 S ws y then conj (L.eqs S0 S y ++ (L.inv y ++ muL L m0 y)) else False
  | .nrm, .as b id l :: fs, S => match pcAt S.m id with
    | some (k, .lp _ r .ready pd) => R (.code b) fs { S with m := S.m.set k (.lp id r .busy pd) }
    | _ => False
  | .nrm, .yd ops dr ov rest dst T E id l n kb :: fs, S => match pcAt S.m id with
    | some (k, .lp _ r _ _) => R (.ops ops dr ov rest) fs ⟨setT T dst (some (.v (.one (.kb true)))), S.E, S.m.set k (.lp id r .ready none), S.V, S.R⟩
    | _ => False
  | .nrm, .rf T E g fn id r0 bl bD ps a b n kb :: fs, S => rfEnd R T bD id fs S
  | .nrm, .cl ops dr ov rest dst T _ _ fn :: fs, S => clEnd rc R ops dr ov rest dst T fn fs S
  | .nrm, .df ds ids :: [], S => match takeM S.m ids with
    | some m => rc.fin { S with m := m }
    | none => False
  | .nrm, .df ds ids :: .sq c :: fs, S => R (.code c) (.df ds ids :: fs) S
  | .nrm, .df ds ids :: .blk _ :: fs, S => R .nrm (.df ds ids :: fs) S
  | .nrm, .df ds ids :: .np :: fs, S => R .nrm (.df ds ids :: fs) S
  | .nrm, .df ds ids :: .df ds' ids' :: fs, S => R .nrm (.df (ds ++ ds') (ids ++ ids') :: fs) S
  | .nrm, .df ds ids :: .cl ops dr ov rest dst T _ _ fn :: fs, S => match takeM S.m ids with
    | some m => clEnd rc R ops dr ov rest dst T fn fs { S with m := m }
    | none => False
  | .nrm, .df _ _ :: _ :: _, _ => False
  | .ext i, .blk j :: fs, S => bif Nat.beq i j then R .nrm fs S else R (.ext i) fs S
  | .ext i, .sq _ :: fs, S => R (.ext i) fs S
  | .ext i, .lu _ _ :: fs, S => R (.ext i) fs S
  | .ext i, .lx _ :: fs, S => R (.ext i) fs S
  | .ext i, .np :: fs, S => R (.ext i) fs S
  | .ext i, .hd _ _ _ _ :: fs, S => R (.ext i) fs S
  | .ext i, .yd ops dr ov rest dst T E id l n kb :: fs, S => match pcAt S.m id with
    | some (k, .lp _ r _ _) => R (.ops ops dr ov rest) fs ⟨setT T dst (some (.v (.one (.kb false)))), S.E, S.m.set k (.lp id r .done (some (.exit i))), S.V, S.R⟩
    | _ => False
  | .ext i, .df ds ids :: .blk j :: fs, S => bif Nat.beq i j then R .nrm (.df ds ids :: fs) S else R (.ext i) (.df ds ids :: fs) S
  | .ext i, .df ds ids :: .sq _ :: fs, S => R (.ext i) (.df ds ids :: fs) S
  | .ext i, .df ds ids :: .np :: fs, S => R (.ext i) (.df ds ids :: fs) S
  | .ext i, .df ds ids :: .hd _ _ _ _ :: fs, S => R (.ext i) (.df ds ids :: fs) S
  | .ext i, .df ds ids :: .df ds' ids' :: fs, S => R (.ext i) (.df (ds ++ ds') (ids ++ ids') :: fs) S
  | .ext _, _, _ => False
  | .ret, [], S => rc.fin S
  | .ret, .cl ops dr ov rest dst T _ _ fn :: fs, S => clEnd rc R ops dr ov rest dst T fn fs S
  | .ret, .rf T E g fn id r0 bl bD ps a b n kb :: fs, S => rfEnd R T bD id fs S
  | .ret, .sq _ :: fs, S => R .ret fs S
  | .ret, .lu _ _ :: fs, S => R .ret fs S
  | .ret, .lx _ :: fs, S => R .ret fs S
  | .ret, .blk _ :: fs, S => R .ret fs S
  | .ret, .np :: fs, S => R .ret fs S
  | .ret, .hd _ _ _ _ :: fs, S => R .ret fs S
  | .ret, .yd ops dr ov rest dst T E id l n kb :: fs, S => match pcAt S.m id with
    | some (k, .lp _ r _ _) => R (.ops ops dr ov rest) fs ⟨setT T dst (some (.v (.one (.kb false)))), S.E, S.m.set k (.lp id r .done (some .ret)), S.V, S.R⟩
    | _ => False
  | .ret, .df ds ids :: [], S => match takeM S.m ids with
    | some m => rc.fin { S with m := m }
    | none => False
  | .ret, .df ds ids :: .sq _ :: fs, S => R .ret (.df ds ids :: fs) S
  | .ret, .df ds ids :: .blk _ :: fs, S => R .ret (.df ds ids :: fs) S
  | .ret, .df ds ids :: .np :: fs, S => R .ret (.df ds ids :: fs) S
  | .ret, .df ds ids :: .hd _ _ _ _ :: fs, S => R .ret (.df ds ids :: fs) S
  | .ret, .df ds ids :: .df ds' ids' :: fs, S => R .ret (.df (ds ++ ds') (ids ++ ids') :: fs) S
  | .ret, .df ds ids :: .cl ops dr ov rest dst T _ _ fn :: fs, S => match takeM S.m ids with
    | some m => clEnd rc R ops dr ov rest dst T fn fs { S with m := m }
    | none => False
  | .ret, _, _ => False
  | .pan v, .sq _ :: fs, S => R (.pan v) fs S
  | .pan v, .lu _ _ :: fs, S => R (.pan v) fs S
  | .pan v, .lx _ :: fs, S => R (.pan v) fs S
  | .pan v, .blk _ :: fs, S => R (.pan v) fs S
  | .pan v, .hd _ _ _ _ :: fs, S => R (.pan v) fs S
  | .pan v, .cl _ _ _ _ _ T _ _ _ :: fs, S => R (.pan v) fs ⟨T, S.E, S.m, S.V, S.R⟩
  | .pan _, _, _ => False

def run (rc : RC FM) : Nat → Pt → List (Fr FM) → SS FM → Prop
  | 0 => fun _ _ _ => False
  | f + 1 => step rc (run rc f)

/-! ### The end -/
def pr0 : S0 → S0 → List (Nat × Option Nat)
  | .pt i _, .pt j _ => [(j, some i)]
  | .qt i _ _ _ _, .qt j _ _ _ _ => [(j, some i)]
  | .sc i _ _ _ _, .sc j _ _ _ _ => [(j, some i)]
  | .mv i, .mv j => [(j, some i)]
  | .xv _, .sc j _ _ _ _ => [(j, none)]
  | _, _ => []
def prC : Ce FM → Ce FM → List (Nat × Option Nat)
  | .b (.cl x) :: c, .b (.cl y) :: d => pr0 x y ++ prC c d
  | _ :: c, _ :: d => prC c d
  | _, _ => []
def prS : SV FM → SV FM → List (Nat × Option Nat)
  | .one x, .one y => pr0 x y
  | .ag c, .ag d => prC c d
  | _, _ => []
def prL : List (SV FM) → List (SV FM) → List (Nat × Option Nat)
  | x :: l, y :: r => prS x y ++ prL l r
  | _, _ => []
def prV : TV FM → TV FM → List (Nat × Option Nat)
  | .v x, .v y => prS x y
  | .tup l, .tup r => prL l r
  | _, _ => []
def assoO : List (Nat × Option Nat) → Nat → Option (Option Nat)
  | [], _ => none
  | (a, b) :: r, t => bif Nat.beq a t then some b else assoO r t
/-- What is no longer written and is told by its place. -/
def rsM (E F : List Ad) (mp : List (Nat × Option Nat)) (rs : List (Nat × Ce FM)) : List (Nat × Ce FM) → Option (List Prop)
  | [] => some []
  | (id, c) :: r => bif noF c then match assoO mp id, rsM E F mp rs r with
    | some (some i), some φ => match rAt rs i with
      | some d => some ((bas E i 0 = bas F id 0) :: (uC 0 E F d c ++ φ))
      | none => none
    | some none, some φ => some (nilC c ++ φ)
    | _, _ => none
    else none
def selM (S : SS FM) (F : List Ad) (mp : List (Nat × Option Nat)) : List (Pc FM) → Option (List Prop × List (Option Nat))
  | [] => some ([], [])
  | .fz rs ds :: r => match selM S F mp r with
    | some (φ, ks) => match (fzLast S.m).bind fun k => (S.m[k]?).map fun p => (k, p) with
      | some (k, .fz rs0 ds0) => (rsM S.E F mp rs0 rs).map fun ψ => (ψ ++ (dsSub ds0 ds ++ φ), some k :: ks)
      | some _ => none
      | none => (rsM S.E F mp [] rs).map fun ψ => (ψ ++ (dsNil ds ++ φ), none :: ks)
    | none => none
  | q :: r => match q.id?.bind (assoO mp), selM S F mp r with
    | some (some i), some (φ, ks) => match pcAt S.m i with
      | some (k, p) => some (uP 0 S.E F p q ++ φ, some k :: ks)
      | none => none
    | some none, some (φ, ks) => match q with
      | .sl id n cap c _ _ => some ((bas F id 0 = none) :: (n = 0) :: (cap = 0) :: (nilC c ++ φ), none :: ks)
      | .rd _ c => some (nilC c ++ φ, none :: ks)
      | _ => none
    | _, _ => none
def nodupO : List (Option Nat) → Bool
  | [] => true
  | none :: r => nodupO r
  | some k :: r => !(r.contains (some k)) && nodupO r
def nrmS (S : SS FM) : SS FM := ⟨S.T, S.E, nrmF S.m, S.V, S.R⟩
def finS (X : Cx) (rs : List ResultVar) (p : PS FM) (S : SS FM) : Prop := match resQ X S rs with
  | some (φ, vs) => bif !(Nat.ble rs.length 4) then False else andL φ (∃ y : p.Y, match selM (nrmS S) (p.E y) (prV (tupS vs) (p.ret y)) (p.m y) with
    | some (ψ, ks) => bif nodupO ks then conj (uV 0 S.E (p.E y) (tupS vs) (p.ret y) ++ (ψ ++ p.fact y)) else False
    | none => False)
  | none => False

end
end Go.Px
end
