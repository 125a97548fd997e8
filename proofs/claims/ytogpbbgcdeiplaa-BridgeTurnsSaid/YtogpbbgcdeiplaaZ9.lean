/-
  Quiet operations under tests that are not known, both ways at once. No condition.
-/
import Derived.Test.YtogpbbgcdeiplaaZ8
set_option linter.all false
namespace Go.Px
open Go.RowKit

section
variable {FM : Nat → Fm}

/-! ### What a state's shape wants of lengths -/
def Sg.hy : Sg FM → List Prop
  | .b (.cl _) => []
  | .b (.iz _ l n) => [l.length = n]
  | .f j l n => [l.length = n, ∀ a ∈ l, (FM j).wf a]
def chy : Ce FM → List Prop
  | [] => []
  | s :: c => s.hy ++ chy c
theorem chy_iff : ∀ {c : Ce FM}, All (chy c) ↔ cwf c
  | [] => by simp [chy, All, cwf]
  | .b (.cl x) :: c => by simp only [chy, Sg.hy, List.nil_append, cwf, Sg.wf, Sg0.wf, true_and]; exact chy_iff
  | .b (.iz k l n) :: c => by simp only [chy, Sg.hy, List.cons_append, List.nil_append, All, cwf, Sg.wf, Sg0.wf, chy_iff (c := c)]
  | .f j l n :: c => by simp only [chy, Sg.hy, List.cons_append, List.nil_append, All, cwf, Sg.wf, chy_iff (c := c), and_assoc]
def SV.hy : SV FM → List Prop
  | .one _ => []
  | .ag c => chy c
theorem SV.hy_iff {v : SV FM} : All v.hy ↔ v.wf := by
  cases v with
  | one x => simp [SV.hy, All, SV.wf]
  | ag c => exact chy_iff
def svhy : List (SV FM) → List Prop
  | [] => []
  | x :: l => x.hy ++ svhy l
theorem svhy_iff : ∀ {l : List (SV FM)}, All (svhy l) ↔ svwf l
  | [] => by simp [svhy, All, svwf]
  | x :: l => by simp only [svhy, All_append, SV.hy_iff, svwf, svhy_iff (l := l)]
def TV.hy : TV FM → List Prop
  | .v x => x.hy
  | .tup l => svhy l
  | .fn _ a b => svhy a ++ svhy b
theorem TV.hy_iff {v : TV FM} : All v.hy ↔ v.wf := by
  cases v with
  | v x => exact SV.hy_iff
  | tup l => exact svhy_iff
  | fn f a b => simp only [TV.hy, All_append, svhy_iff]; rfl
def sthy : ST FM → List Prop
  | [] => []
  | (_, some v) :: r => v.hy ++ sthy r
  | (_, none) :: r => sthy r
theorem sthy_iff : ∀ {T : ST FM}, All (sthy T) ↔ stwf T
  | [] => by simp [sthy, All, stwf]
  | (_, some v) :: r => by simp only [sthy, All_append, TV.hy_iff, stwf, otwf, sthy_iff (T := r)]
  | (_, none) :: r => by simp only [sthy, stwf, otwf, true_and]; exact sthy_iff
def rshy : List (Nat × Ce FM) → List Prop
  | [] => []
  | (_, c) :: r => chy c ++ rshy r
theorem rshy_iff : ∀ {r : List (Nat × Ce FM)}, All (rshy r) ↔ rswf r
  | [] => by simp [rshy, All, rswf]
  | (_, c) :: r => by simp only [rshy, All_append, chy_iff, rswf, rshy_iff (r := r)]
def Pc.hy : Pc FM → List Prop
  | .bk _ c _ => chy c
  | .sl _ n cap c _ s => chy c
  | .rd _ c => chy c
  | .pr _ => []
  | .lp _ _ _ _ => []
  | .mk _ _ => []
  | .fz rs _ => rshy rs
  | .mp _ n l => [∀ p ∈ l, p.1.length = n]
theorem Pc.hy_iff {p : Pc FM} : All p.hy ↔ p.wf := by
  cases p with
  | pr φ => simp [Pc.hy, All, Pc.wf]
  | lp id r st pd => simp [Pc.hy, All, Pc.wf]
  | mk id b => simp [Pc.hy, All, Pc.wf]
  | fz rs ds => exact rshy_iff
  | mp id n l => simp [Pc.hy, All, Pc.wf]
  | _ => exact chy_iff
def mhy : List (Pc FM) → List Prop
  | [] => []
  | p :: m => p.hy ++ mhy m
theorem mhy_iff : ∀ {m : List (Pc FM)}, All (mhy m) ↔ mwf m
  | [] => by simp [mhy, All, mwf]
  | p :: m => by simp only [mhy, All_append, Pc.hy_iff, mwf, mhy_iff (m := m)]

def conj : List Prop → Prop
  | [] => True
  | [p] => p
  | p :: q :: r => p ∧ conj (q :: r)
theorem conj_iff : ∀ {l : List Prop}, conj l ↔ All l
  | [] => Iff.rfl
  | [p] => by simp [conj, All]
  | p :: q :: r => by simp only [conj, All, conj_iff (l := q :: r)]
def andL : List Prop → Prop → Prop
  | [], P => P
  | p :: r, P => p ∧ andL r P
theorem andL_iff : ∀ {l : List Prop} {P : Prop}, andL l P ↔ All l ∧ P
  | [], P => by simp [andL, All]
  | p :: r, P => by simp only [andL, All, andL_iff (l := r), and_assoc]
def impL : List Prop → Prop → Prop
  | [], P => P
  | p :: r, P => p → impL r P
theorem impL_of : ∀ {l : List Prop} {P : Prop}, impL l P → All l → P
  | [], _, h, _ => h
  | _ :: _, _, h, ha => impL_of (h ha.1) ha.2

/-! ### Tests -/
/-- A truth at hand. -/
def bv : S0 → Option Bool
  | .xv (.bool g) => some g
  | .kb b => some b
  | _ => none
theorem bv_den {E : List Ad} {x : S0} {g : Bool} (h : bv x = some g) : x.den E = .bool g := by
  unfold bv at h
  split at h
  · simp only [Option.some.injEq] at h; subst h; rfl
  · simp only [Option.some.injEq] at h; subst h; rfl
  · cases h
inductive GS where
  | want
  | skip
  | ask (t : Nat) (g : Bool)
def gst (T : ST FM) (ops : Array Oper) (o : Oper) : Option GS := match o.guard with
  | none => some .want
  | some (j, b) => match (ops[j]?).bind (·.dst) with
    | none => none
    | some t => match lookS T t with
      | some (.v (.one (.kb v))) => some (bif v == b then .want else .skip)
      | some (.v (.one (.xv (.bool g)))) => some (.ask t g)
      | some (.tup []) => some .skip
      | _ => none
/-- What a skipped operation leaves, where a test asks for it. -/
def skV (ops : Array Oper) (i : Nat) : Option (TV FM) := bif ops.toList.any (fun o => match o.guard with | some (j, _) => Nat.beq j i | none => false) then some (.tup []) else none
theorem skV_wf (ops : Array Oper) (i : Nat) : otwf (skV (FM := FM) ops i) := by
  unfold skV
  cases ops.toList.any (fun o => match o.guard with | some (j, _) => Nat.beq j i | none => false) <;> exact trivial
theorem skV_lt (ops : Array Oper) (i n : Nat) : otlt n (skV (FM := FM) ops i) = true := by
  unfold skV
  cases ops.toList.any (fun o => match o.guard with | some (j, _) => Nat.beq j i | none => false) <;> rfl
theorem skV_den {ops : Array Oper} {i : Nat} {E : List Ad} {v : TV FM} (h : skV ops i = some v) : v.den E = undef := by
  unfold skV at h
  cases hb : ops.toList.any (fun o => match o.guard with | some (j, _) => Nat.beq j i | none => false)
  · rw [hb] at h; cases h
  · rw [hb] at h
    simp only [cond_true, Option.some.injEq] at h
    subst h
    rfl

theorem gst_want {ops : Array Oper} {o : Oper} {E : List Ad} {T : ST FM} (h : gst T ops o = some .want) : wantT (tden E T) ops o = some true := by
  unfold gst at h
  unfold wantT
  split at h
  · rename_i hg; rw [hg]
  · rename_i j b hg
    rw [hg]
    simp only
    split at h
    · cases h
    · rename_i t ht
      rw [ht]
      simp only
      split at h
      · rename_i v hv
        rw [lookS_den, hv]
        simp only [Option.map_some, TV.den, SV.den, S0.den]
        cases v <;> cases b <;> simp_all
      · cases h
      · cases h
      · cases h
theorem gst_skip {ops : Array Oper} {o : Oper} {E : List Ad} {T : ST FM} (h : gst T ops o = some .skip) : wantT (tden E T) ops o = some false := by
  unfold gst at h
  unfold wantT
  split at h
  · cases h
  · rename_i j b hg
    rw [hg]
    simp only
    split at h
    · cases h
    · rename_i t ht
      rw [ht]
      simp only
      split at h
      · rename_i v hv
        rw [lookS_den, hv]
        simp only [Option.map_some, TV.den, SV.den, S0.den]
        cases v <;> cases b <;> simp_all
      · cases h
      · rename_i hv
        rw [lookS_den, hv]
        rfl
      · cases h
theorem gst_ask {ops : Array Oper} {o : Oper} {E : List Ad} {T : ST FM} {t : Nat} {g : Bool} (h : gst T ops o = some (.ask t g)) : lookS T t = some (.v (.one (.xv (.bool g)))) := by
  unfold gst at h
  split at h
  · cases h
  · split at h
    · cases h
    · split at h
      · simp only [Option.some.injEq, cond_eq_ite] at h
        split at h <;> cases h
      · rename_i g' hl
        simp only [Option.some.injEq, GS.ask.injEq] at h
        obtain ⟨rfl, rfl⟩ := h
        exact hl
      · cases h
      · cases h

def setT (T : ST FM) (d : Option Nat) (v : Option (TV FM)) : ST FM := match d with
  | some t => (t, v) :: T
  | none => T
theorem tden_setT {E : List Ad} {T : ST FM} {d : Option Nat} {v : TV FM} : tden E (setT T d (some v)) = putT (tden E T) d (v.den E) := by
  cases d <;> rfl
theorem stwf_set {T : ST FM} (h : stwf T) {d : Option Nat} {v : Option (TV FM)} (hv : otwf v) : stwf (setT T d v) := by
  cases d with
  | none => exact h
  | some d => exact ⟨hv, h⟩
theorem stlt_set {n : Nat} {T : ST FM} (h : stlt n T = true) {d : Option Nat} {v : Option (TV FM)} (hv : otlt n v = true) : stlt n (setT T d v) = true := by
  cases d with
  | none => exact h
  | some d => simp only [setT, stlt, hv, h, Bool.and_self]
def kbT (T : ST FM) (t : Nat) (b : Bool) : ST FM := (t, some (.v (.one (.kb b)))) :: T
theorem kbT_wf {T : ST FM} (h : stwf T) (t : Nat) (b : Bool) : stwf (kbT T t b) := ⟨trivial, h⟩
theorem kbT_lt {n : Nat} {T : ST FM} (h : stlt n T = true) (t : Nat) (b : Bool) : stlt n (kbT T t b) = true := by
  simp only [kbT, stlt, h, Bool.and_true]; rfl
theorem kbT_look {E : List Ad} {T : ST FM} {t : Nat} {g b : Bool} (h : look (tden E T) t = some (.bool g)) (hg : g = b) (s : Nat) (v : Value) (hs : look (tden E (kbT T t b)) s = some v) : look (tden E T) s = some v := by
  subst hg
  simp only [kbT, tden, look] at hs
  split at hs
  · rename_i e
    simp only [beq_iff_eq] at e; subst e
    rw [h]; exact hs
  · exact hs

/-! ### Either of two values -/
def mrgB (g : Bool) : S0 → S0 → Option Bool
  | .kb true, y => (bv y).map fun y => g || y
  | .kb false, y => (bv y).map fun y => !g && y
  | x, .kb true => (bv x).map fun x => !g || x
  | x, .kb false => (bv x).map fun x => g && x
  | x, y => match bv x, bv y with
    | some x, some y => some (bif g then x else y)
    | _, _ => none
def mrg0 (g : Bool) : S0 → S0 → Option S0
  | .xv (.int k x), .xv (.int k' y) => bif decide (k = k') then some (.xv (.int k (bif g then x else y))) else none
  | x, y => (mrgB g x y).map fun b => .xv (.bool b)
theorem mrgB_spec {E : List Ad} {g : Bool} {x y : S0} {b : Bool} (h : mrgB g x y = some b) : Value.bool b = (bif g then x.den E else y.den E) := by
  unfold mrgB at h
  split at h
  · obtain ⟨z, hz, rfl⟩ := Option.map_eq_some_iff.1 h
    rw [bv_den hz]; cases g <;> simp [S0.den]
  · obtain ⟨z, hz, rfl⟩ := Option.map_eq_some_iff.1 h
    rw [bv_den hz]; cases g <;> simp [S0.den]
  · obtain ⟨z, hz, rfl⟩ := Option.map_eq_some_iff.1 h
    rw [bv_den hz]; cases g <;> simp [S0.den]
  · obtain ⟨z, hz, rfl⟩ := Option.map_eq_some_iff.1 h
    rw [bv_den hz]; cases g <;> simp [S0.den]
  · split at h
    · rename_i hx hy
      simp only [Option.some.injEq] at h; subst h
      rw [bv_den hx, bv_den hy]; cases g <;> rfl
    · cases h
theorem mrg0_spec {E : List Ad} {g : Bool} {x y z : S0} (h : mrg0 g x y = some z) : z.den E = (bif g then x.den E else y.den E) ∧ (∀ N, z.lt N = true) ∧ z.ok = true := by
  unfold mrg0 at h
  split at h
  · simp only [cond_eq_ite] at h
    split at h
    · rename_i hk
      have := of_decide_eq_true hk; subst this
      simp only [Option.some.injEq] at h; subst h
      exact ⟨by cases g <;> rfl, fun _ => rfl, rfl⟩
    · cases h
  · obtain ⟨b, hb, rfl⟩ := Option.map_eq_some_iff.1 h
    exact ⟨mrgB_spec hb, fun _ => rfl, rfl⟩
def mrgC (g : Bool) : Ce FM → Ce FM → Option (Ce FM)
  | [], [] => some []
  | .b (.cl x) :: c, .b (.cl y) :: d => match mrg0 g x y, mrgC g c d with
    | some z, some r => some (.b (.cl z) :: r)
    | _, _ => none
  | .b (.iz k l n) :: c, .b (.iz k' l' n') :: d => bif decide (k = k') && Nat.beq n n' then (mrgC g c d).map fun r => .b (.iz k (bif g then l else l') n) :: r else none
  | _, _ => none
theorem mrgC_spec {E : List Ad} {N : Nat} {g : Bool} : ∀ {c d r : Ce FM}, mrgC g c d = some r → (g = true → cwf c) → (g = false → cwf d) → cden E r = (bif g then cden E c else cden E d) ∧ cwf r ∧ cok N r = true
  | [], [], r, h, _, _ => by simp only [mrgC, Option.some.injEq] at h; subst h; exact ⟨by cases g <;> rfl, trivial, rfl⟩
  | .b (.cl x) :: c, .b (.cl y) :: d, r, h, hc, hd => by
    simp only [mrgC] at h
    split at h
    · rename_i z r' hz hr
      simp only [Option.some.injEq] at h; subst h
      obtain ⟨g1, g2, g3⟩ := mrgC_spec (E := E) (N := N) hr (fun h => (hc h).2) (fun h => (hd h).2)
      obtain ⟨q1, q2, q3⟩ := mrg0_spec (E := E) hz
      refine ⟨?_, ⟨trivial, g2⟩, by simp [cok, Sg.ok, Sg0.ok, q2, q3, g3]⟩
      simp only [cden, Sg.den, Sg0.den, g1, q1]
      cases g <;> rfl
    · cases h
  | .b (.iz k l n) :: c, .b (.iz k' l' n') :: d, r, h, hc, hd => by
    simp only [mrgC, cond_eq_ite] at h
    split at h
    · rename_i hk
      simp only [Bool.and_eq_true, decide_eq_true_eq] at hk
      obtain ⟨rfl, hn⟩ := hk
      have := beq_n hn; subst this
      obtain ⟨r', hr, rfl⟩ := Option.map_eq_some_iff.1 h
      obtain ⟨g1, g2, g3⟩ := mrgC_spec (E := E) (N := N) hr (fun h => (hc h).2) (fun h => (hd h).2)
      refine ⟨?_, ⟨?_, g2⟩, by simp [cok, Sg.ok, Sg0.ok, g3]⟩
      · simp only [cden, Sg.den, Sg0.den, g1]
        cases g <;> rfl
      · show (if g = true then l else l').length = n
        cases g
        · exact (hd rfl).1
        · exact (hc rfl).1
    · cases h
  | [], _ :: _, _, h, _, _ => by simp [mrgC] at h
  | .b (.cl _) :: _, [], _, h, _, _ => by simp [mrgC] at h
  | .b (.iz ..) :: _, [], _, h, _, _ => by simp [mrgC] at h
  | .f .. :: _, _, _, h, _, _ => by simp [mrgC] at h
  | .b (.cl _) :: _, .b (.iz ..) :: _, _, h, _, _ => by simp [mrgC] at h
  | .b (.cl _) :: _, .f .. :: _, _, h, _, _ => by simp [mrgC] at h
  | .b (.iz ..) :: _, .b (.cl _) :: _, _, h, _, _ => by simp [mrgC] at h
  | .b (.iz ..) :: _, .f .. :: _, _, h, _, _ => by simp [mrgC] at h

/-- What a pick yields: x if g, else y. -/
def mrgV (g : Bool) : TV FM → TV FM → Option (TV FM)
  | .v (.one x), .v (.one y) => (mrg0 g x y).map fun z => .v (.one z)
  | .v (.ag c), .v (.ag d) => (mrgC g c d).map fun z => .v (.ag z)
  | _, _ => none
theorem mrgV_spec {E : List Ad} {N : Nat} {g : Bool} {x y z : TV FM} (h : mrgV g x y = some z) (hx : g = true → x.wf) (hy : g = false → y.wf) : z.den E = (bif g then x.den E else y.den E) ∧ z.wf ∧ z.lt N = true := by
  unfold mrgV at h
  split at h
  · obtain ⟨z', hz, rfl⟩ := Option.map_eq_some_iff.1 h
    obtain ⟨q1, q2, q3⟩ := mrg0_spec (E := E) hz
    exact ⟨q1, trivial, q2 N⟩
  · obtain ⟨z', hz, rfl⟩ := Option.map_eq_some_iff.1 h
    obtain ⟨q1, q2, q3⟩ := mrgC_spec (E := E) (N := N) hz hx hy
    refine ⟨?_, q2, q3⟩
    simp only [TV.den, SV.den, q1]
    cases g <;> rfl
  · cases h

/-! ### Quiet operations -/
def dropO : Nat → OT → OT
  | 0, t => t
  | n + 1, .s _ t => dropO n t
  | _ + 1, t => t
def findPick (ops : Array Oper) (g : Nat) : Nat → OT → Option Nat
  | 0, _ => none
  | f + 1, .s i t => match ops[i]? with
    | none => none
    | some o => match o.op with
      | .pick (.tmp c) _ _ => bif Nat.beq c g then some 1 else (findPick ops g f t).map (· + 1)
      | _ => (findPick ops g f t).map (· + 1)
  | _, _ => none
def dstsO (ops : Array Oper) : Nat → OT → List Nat
  | n + 1, .s i t => match (ops[i]?).bind (·.dst) with
    | some d => d :: dstsO ops n t
    | none => dstsO ops n t
  | _, _ => []

def pickQ (X : Cx) (S : SS FM) (c : Nat) (a b : Operand) (ty : TypeId) : Option (TV FM) := match lookS S.T c with
  | some (.v (.one (.kb true))) => evS X S (some ty) a
  | some (.v (.one (.kb false))) => evS X S (some ty) b
  | some (.v (.one (.xv (.bool g)))) => match evS X S (some ty) a, evS X S (some ty) b with
    | some x, some y => mrgV g x y
    | _, _ => none
  | _ => none

def imp1 (g b : Bool) : List Prop → List Prop
  | [] => []
  | φ => [g = b → conj φ]
theorem imp1_spec {g b : Bool} {φ : List Prop} (h : All (imp1 g b φ)) (hg : g = b) : All φ := by
  cases φ with
  | nil => trivial
  | cons p r => exact conj_iff.1 (h.1 hg)
def kbCk (T1 T2 : ST FM) (t : Nat) : Bool := match lookS T1 t, lookS T2 t with
  | some (.v (.one (.kb true))), some (.v (.one (.kb false))) => true
  | _, _ => false
/-- The pick where two ways come together: the table behind it. -/
def mrgP (X : Cx) (N : Nat) (ops : Array Oper) (fl : FL) (S : SS FM) (t : Nat) (g : Bool) (k : Nat) (L : OT) (T T1 T2 : ST FM) : Option (ST FM) :=
  match dropO k L with
  | .s ip _ => match ops[ip]? with
    | some lo => match lo.op, lo.dst, gst T1 ops lo, gst T2 ops lo with
      | .pick (.tmp c) a b, some d, some .want, some .want => match evS X { S with T := T1 } (some lo.type) a, evS X { S with T := T2 } (some lo.type) b with
        | some v1, some v2 => match mrgV g v1 v2 with
          | some v => bif Nat.beq c t && Nat.ble (fl ip) 1 && dstOk N (some d) && kbCk T1 T2 t then some ((d, some v) :: (unk (dstsO ops k L) ++ T)) else none
          | none => none
        | _, _ => none
      | _, _, _, _ => none
    | none => none
  | _ => none
def qrun (X : Cx) (N : Nat) (ops : Array Oper) (fl : FL) (S : SS FM) : Nat → Nat → OT → ST FM → Option (List Prop × ST FM)
  | 0, _, _, _ => none
  | _ + 1, 0, _, T => some ([], T)
  | f + 1, n + 1, .s i rest, T => match ops[i]? with
    | none => none
    | some o =>
      bif !(dstOk N o.dst) then none else
      match gst T ops o with
      | none => none
      | some .skip => qrun X N ops fl S f n rest (setT T o.dst (skV ops i))
      | some .want => match o.op with
        | .pick (.tmp c) a b => match pickQ X { S with T := T } c a b o.type with
          | some v => bif Nat.ble (fl i) 1 then qrun X N ops fl S f n rest (setT T o.dst (some v)) else none
          | none => none
        | _ => match stepQ X { S with T := T } o with
          | some (φ, v, []) => bif Nat.ble (fl i) 1 && (!(isLd o.op) || Nat.beq (fl i) 1) then (qrun X N ops fl S f n rest (setT T o.dst (some v))).map fun (ψ, T') => (φ ++ ψ, T') else none
          | _ => none
      | some (.ask t g) => match findPick ops t 60 (.s i rest) with
        | some (k + 1) => bif Nat.ble k n then
            match qrun X N ops fl S f k (.s i rest) (kbT T t true), qrun X N ops fl S f k (.s i rest) (kbT T t false) with
            | some (φ1, T1), some (φ2, T2) => match mrgP X N ops fl S t g k (.s i rest) T T1 T2 with
              | some T' => (qrun X N ops fl S f (n - k) (dropO (k + 1) (.s i rest)) T').map fun (ψ, T'') => (imp1 g true φ1 ++ (imp1 g false φ2 ++ ψ), T'')
              | none => none
            | _, _ => none else none
        | _ => none
  | _ + 1, _ + 1, _, _ => none

theorem WC.mono {P : Program} {N : FN} {ops : Array Oper} {Q : Exit → Act → World → Prop} {fl : FL} {L : OT} {T T' : Tab} {w : World} (h : WC P N ops Q fl L T' w) (hT : ∀ t v, look T' t = some v → look T t = some v) : WC P N ops Q fl L T w :=
  fun a ha => h a ⟨ha.1, ha.2.1, fun t v ht => ha.2.2 t v (hT t v ht)⟩

variable {X : Cx} {N : FN} {ops : Array Oper} {fl : FL} {S : SS FM} {Q : Exit → Act → World → Prop} {w : World}

theorem SS.WF.withT (hS : S.WF) {T : ST FM} (h1 : stwf T) (h2 : stlt S.E.length T = true) : ({ S with T := T } : SS FM).WF := ⟨hS.b, hS.r, h1, h2, hS.m, hS.ml, hS.v⟩

theorem opT_of {E : List Ad} {T : ST FM} {i : Nat} {o : Oper} (ho : ops[i]? = some o) (hd : dstOk N o.dst = true) (hg : gst T ops o = some .want) : opT N ops (tden E T) i = some o := by
  unfold opT
  rw [ho]
  simp only [hd, gst_want hg, beq_self_eq_true, Bool.and_self, if_true]

theorem wc_pickK {E : List Ad} {T : ST FM} {i : Nat} {rest : OT} {o : Oper} {c : Nat} {a b : Operand} {v : Value} {g : Bool} (ho : ops[i]? = some o) (hd : dstOk N o.dst = true) (hg : gst T ops o = some .want) (hf : Nat.ble (fl i) 1 = true)
    (hop : o.op = .pick (.tmp c) a b) (hc : look (tden E T) c = some (.bool g)) (hv : evT (tden E T) (if g then a else b) = some v) (h : WC X.P N ops Q fl rest (putT (tden E T) o.dst v) w) : WC X.P N ops Q fl (.s i rest) (tden E T) w := by
  refine wc_val (opT_of ho hd hg) hf (fun ac w' ha _ => ?_) h
  have hcv : ac.eval (.tmp c) = .bool g := evT_spec ha hc
  have hvv := evT_spec ha hv
  unfold execOp
  cases g
  · simp only [Bool.false_eq_true, if_false] at hvv
    simp [hop, hcv, hvv, asBool]
  · simp only [if_true] at hvv
    simp [hop, hcv, hvv, asBool]

theorem look_of {E : List Ad} {T : ST FM} {t : Nat} {v : TV FM} (h : lookS T t = some v) : look (tden E T) t = some (v.den E) := by
  rw [lookS_den, h]; rfl

theorem pickQ_ok (hS : S.WF) {T : ST FM} (h1 : stwf T) (h2 : stlt S.E.length T = true) {i : Nat} {rest : OT} {o : Oper} {c : Nat} {a b : Operand} {v : TV FM} (ho : ops[i]? = some o) (hd : dstOk N o.dst = true) (hg : gst T ops o = some .want) (hf : Nat.ble (fl i) 1 = true)
    (hop : o.op = .pick (.tmp c) a b) (hv : pickQ X { S with T := T } c a b o.type = some v) : v.wf ∧ v.lt S.E.length = true ∧ (WC X.P N ops Q fl rest (putT (tden S.E T) o.dst (v.den S.E)) w → WC X.P N ops Q fl (.s i rest) (tden S.E T) w) := by
  have hS' := hS.withT h1 h2
  unfold pickQ at hv
  split at hv
  · rename_i hl
    obtain ⟨q1, q2, q3⟩ := evS_spec hS' hv
    exact ⟨q2, q3, wc_pickK (X := X) (g := true) ho hd hg hf hop (look_of hl) q1⟩
  · rename_i hl
    obtain ⟨q1, q2, q3⟩ := evS_spec hS' hv
    exact ⟨q2, q3, wc_pickK (X := X) (g := false) ho hd hg hf hop (look_of hl) q1⟩
  · rename_i g hl
    split at hv
    · rename_i x y hx hy
      obtain ⟨q1, q2, q3⟩ := evS_spec hS' hx
      obtain ⟨p1, p2, p3⟩ := evS_spec hS' hy
      obtain ⟨r1, r2, r3⟩ := mrgV_spec (E := S.E) (N := S.E.length) hv (fun _ => q2) (fun _ => p2)
      refine ⟨r2, r3, fun h => wc_pickK (X := X) (g := g) (v := v.den S.E) ho hd hg hf hop (look_of hl) ?_ h⟩
      rw [r1]
      cases g
      · exact p1
      · exact q1
    · cases hv
  · cases hv

def maxK : Tab → Nat
  | [] => 0
  | (t, _) :: r => max (t + 1) (maxK r)
theorem maxK_lt : ∀ {T : Tab} {t : Nat} {v : Value}, look T t = some v → t < maxK T
  | [], _, _, h => by simp [look] at h
  | (s, u) :: r, t, v, h => by
    simp only [look] at h
    simp only [maxK]
    split at h
    · rename_i e
      simp only [beq_iff_eq] at e
      omega
    · have := maxK_lt h
      omega
theorem tm_some (T : Tab) : ∃ N a, Tm N T a := by
  refine ⟨⟨maxK T, []⟩, { tmps := Array.ofFn (n := maxK T) fun i => (look T i).getD undef, defers := [] }, rfl, by simp, fun t v h => ?_⟩
  have := maxK_lt h
  simp [this, h]

/-- A quiet operation. -/
theorem stepQ_wc (hS : S.WF) {M : Nat → Prop} {w0 : World} (H : HS M w0 w S) {i : Nat} {rest : OT} {o : Oper} {φ : List Prop} {v : TV FM} {x : List (Ad × Vw)} (ho : ops[i]? = some o) (hd : dstOk N o.dst = true)
    (hg : gst S.T ops o = some .want) (hf : (Nat.ble (fl i) 1 && (!(isLd o.op) || Nat.beq (fl i) 1)) = true) (hfd : fl.d = no) (h : stepQ X S o = some (φ, v, x)) (hφ : All φ) :
    v.wf ∧ v.lt (S.E.length + x.length) = true ∧ vwf (S.E ++ x.map (·.1)) (x.map (·.2) ++ S.V) ∧ (WC X.P N ops Q fl rest (putT S.Td o.dst (v.den (S.E ++ x.map (·.1)))) w → WC X.P N ops Q fl (.s i rest) S.Td w) := by
  simp only [Bool.and_eq_true, Bool.or_eq_true, Bool.not_eq_true'] at hf
  obtain ⟨N', a, ha⟩ := tm_some S.Td
  have q := stepQ_ok hS ha H h hφ (fun _ => KeepD.refl no w)
  refine ⟨q.wf, q.lt, q.vw, fun hh => wc_val (opT_of (T := S.T) ho hd hg) hf.1 (fun a w' ha hw' => ?_) hh⟩
  refine (stepQ_ok hS ha H h hφ fun hl => ?_).run
  rcases hf.2 with h' | h'
  · rw [hl] at h'; cases h'
  · have := beq_n h'
    rcases hw' with h0 | hk
    · omega
    · rw [hfd] at hk; exact hk
theorem stepQ_wc3 (hS : S.WF) {M : Nat → Prop} {w0 : World} (H : HS M w0 w S) {i : Nat} {rest : OT} {o : Oper} {φ : List Prop} {v : TV FM} {x : List (Ad × Vw)} (ho : ops[i]? = some o) (hd : dstOk N o.dst = true)
    (hg : gst S.T ops o = some .want) (hf : (Nat.ble (fl i) 1 && (!(isLd o.op) || Nat.beq (fl i) 1)) = true ∨ Nat.beq (fl i) 3 = true) (hfd : fl.d = no) (h : stepQ X S o = some (φ, v, x)) (hφ : All φ) :
    v.wf ∧ v.lt (S.E.length + x.length) = true ∧ vwf (S.E ++ x.map (·.1)) (x.map (·.2) ++ S.V) ∧ (WC X.P N ops Q fl rest (putT S.Td o.dst (v.den (S.E ++ x.map (·.1)))) w → WC X.P N ops Q fl (.s i rest) S.Td w) := by
  rcases hf with hf | hf
  · exact stepQ_wc hS H ho hd hg hf hfd h hφ
  have hf := beq_n hf
  obtain ⟨N', a, ha⟩ := tm_some S.Td
  have q := stepQ_ok hS ha H h hφ (fun _ => KeepD.refl no w)
  refine ⟨q.wf, q.lt, q.vw, fun hh => ?_⟩
  have hop := opT_of (T := S.T) (E := S.E) ho hd hg
  refine wc_heap hop (by rw [hf]; rfl) fun a ha => ?_
  obtain ⟨h1, h2, h3⟩ := opT_spec ha hop
  unfold operR
  rw [(stepQ_ok hS ha H h hφ fun _ => KeepD.refl no w).run]
  exact ⟨fun h => by omega, hh _ (ha.putT h2 _)⟩
end
end Go.Px
