/-
  The walk by computing: what must hold that a function's code answers as a contract says. No condition.
-/
import Derived.Test.YtogpbbgcdeiplaaZC
set_option linter.all false
namespace Go.Px
open Go.RowKit

/-! ### Code -/
def orElse {α : Type} : Option α → Option α → Option α
  | some a, _ => some a
  | none, b => b
/-- The first region. -/
def fid : Code → Option Nat
  | .region id _ _ => some id
  | .seq a b => orElse (fid a) (fid b)
  | .cond _ a b => orElse (fid a) (fid b)
  | .block _ a => fid a
  | .loop a => fid a
  | .scope a => fid a
  | .rangeFunc _ _ a b => orElse (fid a) (fid b)
  | _ => none
def wrO : List Oper → List Nat
  | [] => []
  | o :: r => match o.dst with
    | some d => d :: wrO r
    | none => wrO r
/-- The temporaries that are written. -/
def wrC : Code → List Nat
  | .region _ ops _ => wrO ops.toList
  | .seq a b => wrC a ++ wrC b
  | .cond _ a b => wrC a ++ wrC b
  | .block _ a => wrC a
  | .loop a => wrC a
  | .scope a => wrC a
  | .rangeFunc _ _ a b => wrC a ++ wrC b
  | _ => []
def firstQ (fl : FL) : List Nat → Option Nat
  | [] => none
  | x :: r => bif Nat.ble (fl x) 1 then some x else firstQ fl r
def brs (g : Nat → OT) : List Nat → OT
  | [] => .nil
  | [x] => g x
  | x :: y :: r => .br (g x) (brs g (y :: r))
/-- An order of a region's operations: those that are quiet as early as may be. -/
def ordO (ops : Array Oper) (fl : FL) : Nat → Array Bool → OT
  | 0, _ => .nil
  | f + 1, listed => match Region.ready .any ops listed with
    | [] => .nil
    | x :: r => match firstQ fl (x :: r) with
      | some y => .s y (ordO ops fl f (listed.setIfInBounds y true))
      | none => brs (fun y => .s y (ordO ops fl f (listed.setIfInBounds y true))) (x :: r)
def ordOf (ops : Array Oper) (fl : FL) : OT := ordO ops fl (ops.size + 1) (Array.replicate ops.size false)

section
variable {FM : Nat → Fm}

/-- What is said where ways meet: at a loop's head, behind a branch. -/
structure HA (FM : Nat → Fm) where
  α : Type
  E : α → List Ad
  T : Nat → α → ST FM
  m : Nat → α → List (Pc FM)
  inv : α → List Prop
  mu : α → Nat
def HA.hd (L : HA FM) (S : SS FM) (ws : List Nat) (x : L.α) : SS FM := ⟨L.T S.E.length x ++ (unk ws ++ S.T), S.E ++ L.E x, L.m S.E.length x, S.V, S.R⟩
def HA.ck (L : HA FM) (S : SS FM) (x : L.α) : Bool := stlt (S.E.length + (L.E x).length) (L.T S.E.length x) && mlt (S.E.length + (L.E x).length) (L.m S.E.length x) && mbk (S.E ++ L.E x) (L.m S.E.length x)
def lastN {α : Type} (n : Nat) (l : List α) : List α := l.drop (l.length - n)
/-- What must hold that a state is the head's. -/
def HA.eqs (L : HA FM) (S S1 : SS FM) (x : L.α) : List Prop :=
  uT S.E.length S1.E (S.E ++ L.E x) S1.T (L.T S.E.length x) ++ (uX (S.E ++ L.E x) ((L.m S.E.length x).take ((L.m S.E.length x).length - S1.m.length)) ++ uN S.E.length S1.E S1.V (S.E ++ L.E x) (lastN (L.m S.E.length x).length S1.m) ((L.m S.E.length x).drop ((L.m S.E.length x).length - S1.m.length)))
def HA.ck1 (L : HA FM) (S S1 : SS FM) (ws : List Nat) (x : L.α) : Bool := coverd (L.T S.E.length x) ws (S1.T.length - S.T.length) S1.T

def muL (L : HA FM) (m0 : Option Nat) (y : L.α) : List Prop := match m0 with
  | some n => [L.mu y < n]
  | none => []
inductive Fr (FM : Nat → Fm) where
  | sq (c : Code)
  | blk (i : Nat)
  | np
  | hd (L : HA FM) (S : SS FM) (ws : List Nat) (m0 : Option Nat)
  | cl (ops : Array Oper) (dr : Bool) (ov : List (Nat × Nat)) (rest : OT) (dst : Option Nat) (T : ST FM) (E : List Ad) (g : FuncId) (fn : Func)
  | df (ds : List Deferred) (ids : List Nat)
  | rf (T : ST FM) (E : List Ad) (g : FuncId) (fn : Func) (id : Nat) (r : Loop) (bl bD : Nat) (ps : Array Tmp) (a b : Code) (n kb : Nat)
  | yd (ops : Array Oper) (dr : Bool) (ov : List (Nat × Nat)) (rest : OT) (dst : Option Nat) (T : ST FM) (E : List Ad) (id l n kb : Nat)
  | as (b : Code) (id l : Nat)
/-- How many temporaries the function has that runs, and what was put off in it. -/
def nOf (N : Nat) : List (Fr FM) → FN
  | [] => ⟨N, []⟩
  | .cl _ _ _ _ _ _ _ _ fn :: _ => ⟨fn.ntmps, []⟩
  | .rf _ _ _ fn _ _ _ _ _ _ _ _ _ :: _ => ⟨fn.ntmps, []⟩
  | .yd _ _ _ _ _ _ _ _ _ n _ :: _ => ⟨n, []⟩
  | .df ds _ :: fs => ⟨(nOf N fs).n, ds ++ (nOf N fs).D⟩
  | .sq _ :: fs => nOf N fs
  | .blk _ :: fs => nOf N fs
  | .np :: fs => nOf N fs
  | .hd _ _ _ _ :: fs => nOf N fs
  | .as _ _ _ :: fs => nOf N fs
/-- The round of a range over a function that the code that runs is of. -/
def roOf : List (Fr FM) → Option Nat
  | [] => none
  | .cl _ _ _ _ _ _ _ _ _ :: _ => none
  | .rf _ _ _ _ _ _ _ _ _ _ _ _ _ :: _ => none
  | .yd _ _ _ _ _ _ _ _ l _ _ :: _ => some l
  | .df _ _ :: fs => roOf fs
  | .sq _ :: fs => roOf fs
  | .blk _ :: fs => roOf fs
  | .np :: fs => roOf fs
  | .hd _ _ _ _ :: fs => roOf fs
  | .as _ _ _ :: fs => roOf fs
/-- By what key an annotation is found: a region of the function itself, or of one that is gone through in place. -/
def keyB : List (Fr FM) → Nat
  | [] => 0
  | .cl _ _ _ _ _ _ _ g _ :: _ => (g + 1) * 100000
  | .rf _ _ g _ _ _ _ _ _ _ _ _ _ :: _ => (g + 1) * 100000
  | .yd _ _ _ _ _ _ _ _ _ _ kb :: _ => kb
  | _ :: fs => keyB fs
def keyF (id : Nat) (fs : List (Fr FM)) : Nat := keyB fs + id
/-- Where a range over a function was begun. -/
def rfOf : List (Fr FM) → Nat → Option (ST FM × Array Tmp × Code × Code × Loop × Nat × Nat × Nat)
  | [], _ => none
  | .rf T _ _ _ id r bl _ ps a b n kb :: fs, i => bif Nat.beq id i then some (T, ps, a, b, r, bl, n, kb) else rfOf fs i
  | _ :: fs, i => rfOf fs i
inductive Pt where
  | code (c : Code)
  | ops (ops : Array Oper) (dr : Bool) (ov : List (Nat × Nat)) (t : OT)
  | nrm
  | ext (i : Nat)
  | ret
  | pan (v : S0)

def ascF {β : Type 1} : List (Nat × β) → Nat → Option β
  | [], _ => none
  | (a, b) :: r, t => bif Nat.beq a t then some b else ascF r t
def ascO : List (Nat × List (Nat × Nat)) → Nat → List (Nat × Nat)
  | [], _ => []
  | (a, b) :: r, t => bif Nat.beq a t then b else ascO r t

structure RC (FM : Nat → Fm) where
  X : Cx
  N : Nat
  cons : List (Con X.P FM)
  La : List (Nat × (SS FM → HA FM))
  Ca : List (Nat × (SS FM → HA FM))
  ov : List (Nat × List (Nat × Nat))
  fin : SS FM → Prop
  inl : List Nat := []

/-! ### New blocks -/
def cz : Ce FM → Option (IntKind × List Int)
  | [.b (.cl (.xv (.int k x)))] => some (k, [x])
  | .b (.cl (.xv (.int k x))) :: c => match cz c with
    | some (k', l) => bif decide (k = k') then some (k, x :: l) else none
    | none => none
  | _ => none
/-- Numbers side by side as one run. -/
def nice (e : Option TypeDesc) (c : Ce FM) : Ce FM := match e with
  | some (.int k) => match c with
    | [] => [.b (.iz k [] 0)]
    | c => match cz c with
      | some (k', l) => [.b (.iz k' l l.length)]
      | none => c
  | _ => c
def chunk (F : Fm) : Nat → Ce FM → Option (List F.α × Nat)
  | _, [] => some ([], 0)
  | 0, _ => none
  | f + 1, c => match (dn0 (c.take (F.sg F.d).length)).bind F.of with
    | some a => (chunk F f (c.drop (F.sg F.d).length)).map fun (l, n) => (a :: l, n + 1)
    | none => none
def niceF (j : Nat) (c : Ce FM) : Ce FM := match chunk (FM j) (c.length + 1) c with
  | some (l, n) => [.f j l n]
  | none => c

def niceQ (X : Cx) (e : TypeId) (c : Ce FM) : Ce FM := match asc X.fm e with
  | some j => niceF j c
  | none => nice (X.P.underlying e) c
def zrow (z : Value) (n : Nat) : Array Value := (Array.range n).map (z.cells[· % z.cells.size]!)
/-- A new block's cells, its type, and whether it is told as a slice: how many elements of what size. -/
def newC (X : Cx) (S : SS FM) (o : Oper) : Option (Ce FM × TypeId × Option (Nat × Nat)) := match o.op with
  | .alloc e => (zvB X.P e).bind fun z => (shp X.P X.fm 30 e).bind fun s => (rgA s z.cells.toList).map fun c => (c, e, none)
  | .box e y => match evS X S (some e) y with
    | some (.v v) => bif cok S.E.length v.ce then some (v.ce, e, none) else none
    | _ => none
  | .buildSlice t len ps => match X.P.underlying t with
    | some (.slice e) => match sizeB X.P e, evParts X S ps.toList, zvB X.P e, shp X.P X.fm 30 e with
      | some s, some l, some z, some sh => bif Nat.ble (len * s) 16777216 && Nat.ble 1 s && Nat.ble len 16777216 then
          (rgA (rep sh len) (zrow z (len * s)).toList).bind fun c0 => (bfill S.E.length (fun i => some (i * s, s)) c0 l).bind fun c =>
            bif Nat.beq (cn c) (len * s) then some (niceQ X e c, e, some (len, s)) else none
        else none
      | _, _, _, _ => none
    | _ => none
  | _ => none

/-! ### Stores -/
/-- A truth that is known is written as a truth. -/
def kbN : SV FM → SV FM
  | .one (.kb b) => .one (.xv (.bool b))
  | x => x
theorem kbN_den {E : List Ad} (v : SV FM) : (kbN v).den E = v.den E := by unfold kbN; split <;> rfl
theorem kbN_wf {v : SV FM} (h : v.wf) : (kbN v).wf := by unfold kbN; split; exact trivial; exact h
def stS (X : Cx) (S : SS FM) (o : Oper) : Option (List Prop × SS FM) := match o.op, o.dst with
  | .store ty y z, none => match evS X S none y, evS X S (some ty) z, sizeB X.P ty with
    | some (.v (.one (.pt id off))), some (.v v), some n => match pcAt S.m id with
      | some (k, .bk j c t) => bif Nat.beq (cn v.ce) n && cok S.E.length v.ce then (cput c off v.ce).map fun c' => ([], { S with m := S.m.set k (.bk j c' t) }) else none
      | some (k, .sl j a b c e s) => bif Nat.beq (cn v.ce) n && cok S.E.length v.ce && Nat.ble 1 n then (cput c off v.ce).map fun c' => ([], { S with m := S.m.set k (.sl j a b c' e s) }) else none
      | _ => none
    | some (.v (.one (.qt id o i st o2))), some (.v v), some n => match pcAt S.m id with
      | some (k, .bk j c t) => bif Nat.beq (cn (kbN v).ce) n && cok S.E.length (kbN v).ce then (cdynput c o i st o2 (kbN v).ce).map fun (c', m) => ([i < m], { S with m := S.m.set k (.bk j c' t) }) else none
      | some (k, .sl j a b c e s) => bif Nat.beq (cn (kbN v).ce) n && cok S.E.length (kbN v).ce && Nat.ble 1 n then (cdynput c o i st o2 (kbN v).ce).map fun (c', m) => ([i < m], { S with m := S.m.set k (.sl j a b c' e s) }) else none
      | _ => none
    | _, _, _ => none
  | _, _ => none

/-! ### Records that hold slices -/
/-- Cells of a record: the slices in it get addresses of their own. -/
def dcells (inn : Nat → Option (Option Addr × IntKind × List Int)) : Nat → Nat → List Sg0 → Ce FM × List Ad × List (Nat × Ce FM)
  | _, _, [] => ([], [], [])
  | off, id, .cl (.xv (.slice A n cap)) :: r => match inn off with
    | some (A', k, l) => (.b (.cl (.sc id 0 l.length cap false)) :: (dcells inn (off + 1) (id + 1) r).1, .ad A' :: (dcells inn (off + 1) (id + 1) r).2.1, (id, [.b (.iz k l l.length)]) :: (dcells inn (off + 1) (id + 1) r).2.2)
    | none => (.b (.cl (.xv (.slice A n cap))) :: (dcells inn (off + 1) id r).1, (dcells inn (off + 1) id r).2)
  | off, id, s :: r => (.b s :: (dcells inn (off + s.n) id r).1, (dcells inn (off + s.n) id r).2)
def dldQ (X : Cx) (S : SS FM) (o : Oper) : Option (List Prop × SV FM × List Ad × List (Nat × Ce FM)) := match o.op with
  | .load ty y => match evS X S none y with
    | some (.v (.one (.qt id o i st o2))) => (rdR S.V S.R 9 id).bind fun (c, φs) => (catq c o).bind fun (_, x, _) => match x with
      | .f j l m => bif (FM j).deep && Nat.beq st (FM j).sz then
          match aggB X.P ty with
          | some true => (sizeB X.P ty).bind fun n => (c0sub ((FM j).sg (l.getD i (FM j).d)) o2 n).map fun r => ((i < m) :: φs, .ag (dcells ((FM j).inn (l.getD i (FM j).d)) o2 S.E.length r).1, (dcells (FM := FM) ((FM j).inn (l.getD i (FM j).d)) o2 S.E.length r).2)
          | some false => (c0sub ((FM j).sg (l.getD i (FM j).d)) o2 1).bind fun r => match dcells (FM := FM) ((FM j).inn (l.getD i (FM j).d)) o2 S.E.length r with
            | ([.b (.cl x)], q) => some ((i < m) :: φs, .one x, q)
            | _ => none
          | none => none
        else none
      | _ => none
    | _ => none
  | _ => none

/-! ### Slices that grow, copies -/
abbrev XA (FM : Nat → Fm) := Option (List Prop × (Nat → List Prop) × (Option Addr → Nat → SS FM))
abbrev XM (FM : Nat → Fm) := Option (List Prop × (Option Addr → SS FM))
abbrev XU (FM : Nat → Fm) := Option (List Prop × SS FM)
abbrev XV (FM : Nat → Fm) := Option (List Prop × TV FM)
def capp : Ce FM → Ce FM → Option (Ce FM)
  | [.b (.iz k l m)], [.b (.iz k' l' m')] => bif decide (k = k') then some [.b (.iz k (l ++ l') (m + m'))] else none
  | [.f j l m], [.f j' l' m'] => if h : j' = j then some [.f j (l ++ h ▸ l') (m + m')] else none
  | _, _ => none
/-- How many elements of this size. -/
def cnt (sz : Nat) : Ce FM → Option Nat
  | [.b (.iz _ _ m)] => bif Nat.beq sz 1 then some m else none
  | [.f j _ m] => bif Nat.beq sz (FM j).sz then some m else none
  | _ => none
/-- A slice at hand that is read: its cells, how many elements, what must hold. -/
def slR (S : SS FM) (sz : Nat) : TV FM → Option (Ce FM × Nat × List Prop)
  | .v (.one (.sc id o n _ t)) => (arC S id o n t sz).bind fun (c, φ) => (cnt sz c).map fun m => (c, n, (n = m) :: φ)
  | _ => none
def isNil : TV FM → Bool
  | .v (.one (.xv (.slice none 0 0))) => true
  | _ => false
/-- A slice of the call's own: where its piece stands, how many elements, their cells, the room, what must hold. -/
def slW (S : SS FM) (e sz : Nat) : TV FM → Option (Nat × Nat × Nat × Ce FM × List Prop)
  | .v (.one (.sc id o n q t)) => bif Nat.beq o 0 then match pcAt S.m id with
    | some (k, .sl _ n0 q0 c e' s') => bif Nat.beq e e' && Nat.beq sz s' then
        (bif t then (vcut c 0 n sz).map fun (r, m) => (k, n, q, r, [n ≤ n0, 0 + n ≤ m, q = q0]) else some (k, n, q, c, [n = n0, q = q0])) else none
    | _ => none else none
  | _ => none
def appX (X : Cx) (S : SS FM) (d : Option Nat) (t : TypeId) (x y : Operand) : XA FM := match X.P.underlying t with
  | some (.slice e) => match tyT X.P e, evS X S (some t) x, evS X S (some t) y with
    | some (sz, by', _), some u, some v => match slR S sz v with
      | some (cy, ny, φy) =>
        bif isNil u then some (φy ++ [ny * by' ≤ 140737488355328], fun q => [ny ≤ q], fun A q => ⟨setT S.T d (some (.v (.one (.sc S.E.length 0 ny q false)))), S.E ++ [.ad A], [.sl S.E.length ny q cy e sz] ++ S.m, S.V, S.R⟩)
        else match slW S e sz u with
        | some (k, n, q0, c, φ) => (capp c cy).map fun r => (φ ++ (φy ++ [(n + ny) * by' ≤ 140737488355328]), fun q => [n + ny ≤ q], fun A q => ⟨setT S.T d (some (.v (.one (.sc S.E.length 0 (n + ny) q false)))), S.E ++ [.ad A], S.m.set k (.sl S.E.length (n + ny) q r e sz), S.V, S.R⟩)
        | none => none
      | none => none
    | _, _, _ => none
  | _ => none
/-- So many noughts of a type. -/
def zeros (X : Cx) (e n : Nat) (zs : List Value) : Option (Ce FM) := match asc X.fm e with
  | some j => match strip (c0den [] ((FM j).sg (FM j).d)) zs with
    | some [] => some [.f j (List.replicate n (FM j).d) n]
    | _ => none
  | none => match zs with
    | [.int k z] => bif decide (z = 0) then some [.b (.iz k (List.replicate n 0) n)] else none
    | _ => none
def azX (X : Cx) (S : SS FM) (d : Option Nat) (t t' : TypeId) (x y : Operand) : XA FM := match X.P.underlying t, X.P.underlying t' with
  | some (.slice e), some (.int _) => match tyT X.P e, evS X S (some t) x, evS X S (some t') y with
    | some (sz, by', _), some u, some (.v (.one (.xv (.int _ n)))) => bif isNil u then
        (zeros X e n.toNat (zOf X.P e)).map fun c => ([0 < n, n.toNat * by' ≤ 140737488355328], fun q => [n.toNat ≤ q], fun A q => ⟨setT S.T d (some (.v (.one (.sc S.E.length 0 n.toNat q false)))), S.E ++ [.ad A], [.sl S.E.length n.toNat q c e sz] ++ S.m, S.V, S.R⟩)
      else none
    | _, _, _ => none
  | _, _ => none
def mkX (X : Cx) (S : SS FM) (d : Option Nat) (t : TypeId) (x y : Operand) : XM FM := match X.P.underlying t with
  | some (.slice e) => match tyT X.P e, evS X S none x, evS X S none y with
    | some (sz, by', _), some (.v (.one (.xv (.int _ n)))), some (.v (.one (.xv (.int _ q)))) =>
      (zeros X e n.toNat (zOf X.P e)).map fun c => ([0 ≤ n, n = q, by' * n.toNat ≤ 281474976710656], fun A => ⟨setT S.T d (some (.v (.one (.sc S.E.length 0 n.toNat n.toNat false)))), S.E ++ [.ad A], [.sl S.E.length n.toNat n.toNat c e sz] ++ S.m, S.V, S.R⟩)
    | _, _, _ => none
  | _ => none
def cpX (X : Cx) (S : SS FM) (d : Option Nat) (t : TypeId) (x y : Operand) : XU FM := match X.P.underlying t with
  | some (.slice e) => match tyT X.P e, evS X S (some t) x, evS X S (some t) y with
    | some (sz, _, _), some (.v (.one (.sc id o n q tr))), some v => match slR S sz v with
      | some (cy, ny, φy) => match pcAt S.m id with
        | some (k, .bk j c ty) => (bif Nat.beq ny (Nat.min ny n) then some (cy, []) else (vcut cy 0 (Nat.min ny n) sz).map fun (r, m) => (r, [0 + Nat.min ny n ≤ m])).bind fun (c1, φ1) =>
            bif cok S.E.length c1 && Nat.beq (cn c1) (Nat.min ny n * sz) then (cput c o c1).map fun c' => (φy ++ φ1, ⟨setT S.T d (some (one (.int .i64 ((Nat.min ny n : Nat) : Int)))), S.E, S.m.set k (.bk j c' ty), S.V, S.R⟩) else none
        | some (k, .sl j n0 q0 c e' s') => bif Nat.beq o 0 && Nat.beq e e' && Nat.beq sz s' then
            match vcut cy 0 (min ny n) sz, vcut c (min ny n) (n0 - min ny n) sz with
            | some (c1, m1), some (c2, m2) => (capp c1 c2).map fun c' => (φy ++ [0 + min ny n ≤ m1, min ny n + (n0 - min ny n) ≤ m2, n ≤ n0], ⟨setT S.T d (some (one (.int .i64 ((min ny n : Nat) : Int)))), S.E, S.m.set k (.sl j n0 q0 c' e' s'), S.V, S.R⟩)
            | _, _ => none
          else none
        | _ => none
      | none => none
    | _, _, _ => none
  | _ => none
def bsX (X : Cx) (S : SS FM) (src dst : TypeId) (x : Operand) : XV FM := match X.P.underlying src, X.P.underlying dst with
  | some (.slice e), some .string => match X.P.underlying e with
    | some (.int .u8) => match evS X S (some src) x with
      | some (.v (.one (.xv (.slice none 0 0)))) => some ([], .v (.one (.st [])))
      | some v => match slR S 1 v with
        | some ([.b (.iz .u8 l _)], _, φ) => some (φ, .v (.one (.st l)))
        | _ => none
      | none => none
    | _ => none
  | _, _ => none
def appQ (X : Cx) (S : SS FM) (o : Oper) : XA FM := match o.op with
  | .call { callee := .builtin .append, args := ⟨[x, y]⟩, argTypes := ⟨[t, t']⟩ } => bif Nat.beq t t' then appX X S o.dst t x y else azX X S o.dst t t' x y
  | _ => none
/-- Records that hold slices are told as such, ahead of being appended. -/
def dapQ (X : Cx) (S : SS FM) (o : Oper) : Option (List Prop × SS FM) := match o.op with
  | .call { callee := .builtin .append, args := ⟨[x, y]⟩, argTypes := ⟨[t, t']⟩ } => bif Nat.beq t t' then match X.P.underlying t with
    | some (.slice e) => (asc X.fm e).bind fun j => bif (FM j).deep then match evS X S (some t) y with
      | some (.v (.one (.sc idY _ _ _ _))) => match pcAt (wfz S.m) idY with
        | some (kY, .sl _ _ _ c _ _) => match dn0 c with
          | some _ => (fzLast (wfz S.m)).bind fun f => (frzAll (wfz S.m) (some f) (inIds c)).bind fun m1 => (packK S.E m1.1 kY f j).map fun m2 => (m2.2, ⟨S.T, S.E, m2.1, S.V, S.R⟩)
          | none => none
        | _ => none
      | _ => none
      else none
    | _ => none else none
  | _ => none
/-- Records that hold slices, out of a row of the call's own: out of what piece (or out of what was handed in) it is known that their slices stand. -/
def altL {α : Type} : List (Prop × α) → (α → Prop) → Prop
  | [], _ => False
  | [(p, s)], K => p ∧ K s
  | (p, s) :: x :: r, K => (p ∧ K s) ∨ altL (x :: r) K
def dalts (S : SS FM) (d : Option Nat) (j : Nat) (e : (FM j).α) (v : SV FM) (x : List Ad) (y : List (Nat × Ce FM)) : List (Prop × SS FM) :=
  (match fzC S.m with
    | some (k, rs, ds) => match dsJ j ds with
      | [] => []
      | l => [(memL e l, ⟨setT S.T d (some (.v v)), S.E ++ x, (nrmF S.m).set k (.fz (y ++ rs) ds), S.V, S.R⟩)]
    | none => []) ++
  (match dsJ j (dsR S.R) with
    | [] => []
    | l => [(memL e l, ⟨setT S.T d (some (.v v)), S.E ++ x, S.m, S.V, y ++ S.R⟩)])
def dldM (X : Cx) (S : SS FM) (o : Oper) : Option (List Prop × List (Prop × SS FM)) := match o.op with
  | .load ty y => match evS X S none y with
    | some (.v (.one (.qt id 0 i st o2))) => match pcAt S.m id with
      | some (_, .sl _ _ _ [.f j l m] _ _) => bif (FM j).deep && Nat.beq st (FM j).sz then
          match aggB X.P ty with
          | some true => (sizeB X.P ty).bind fun n => (c0sub ((FM j).sg (l.getD i (FM j).d)) o2 n).bind fun r => match dcells (FM := FM) ((FM j).inn (l.getD i (FM j).d)) o2 S.E.length r with
            | (_, _, []) => none
            | (c, x, y :: ys) => some ([i < m], dalts S o.dst j (l.getD i (FM j).d) (.ag c) x (y :: ys))
          | some false => (c0sub ((FM j).sg (l.getD i (FM j).d)) o2 1).bind fun r => match dcells (FM := FM) ((FM j).inn (l.getD i (FM j).d)) o2 S.E.length r with
            | ([.b (.cl c)], x, y :: ys) => some ([i < m], dalts S o.dst j (l.getD i (FM j).d) (.one c) x (y :: ys))
            | _ => none
          | none => none
        else none
      | _ => none
    | _ => none
  | _ => none
/-- A slice is put into a record of a row of the call's own: ahead of it, it is no longer written. -/
def dfzQ (X : Cx) (S : SS FM) (o : Oper) : Option (SS FM) := match o.op with
  | .store ty _ z => match evS X S (some ty) z with
    | some (.v v) => (fzLast (wfz S.m)).bind fun f => (frzAll (wfz S.m) (some f) (inIds v.ce)).map fun m1 => ⟨S.T, S.E, nrmF m1.1, S.V, S.R⟩
    | _ => none
  | _ => none
def putQ (X : Cx) (S : SS FM) (o : Oper) : Option (List Prop × (j : Nat) × List (FM j).α × (List (FM j).α → SS FM)) := match o.op, o.dst with
  | .store ty y z, none => match evS X S none y, evS X S (some ty) z, sizeB X.P ty with
    | some (.v (.one (.qt id 0 i st o2))), some (.v v), some n => match pcAt S.m id, fzLast S.m with
      | some (k, .sl id' n0 q [.f j l len] e s), some f => match S.m[f]? with
        | some (.fz rs ds) => bif Nat.beq st (FM j).sz && Nat.beq (cn v.ce) n && cok S.E.length v.ce && Nat.ble 1 n then
            (cput (up0 ((FM j).sg (l.getD i (FM j).d))) o2 v.ce).bind fun c' => (dcFz S.E rs c').bind fun (D, φ) => match dchk (FM j) 2 D with
              | some [a] => some ((i < len) :: φ, ⟨j, l.set i a, fun l' => ⟨S.T, S.E, (S.m.set k (.sl id' n0 q [.f j l' len] e s)).set f (.fz rs ([.f j [a] 1] :: ds)), S.V, S.R⟩⟩)
              | _ => none
          else none
        | _ => none
      | _, _ => none
    | _, _, _ => none
  | _, _ => none
def cpQ (X : Cx) (S : SS FM) (o : Oper) : XU FM := match o.op with
  | .call { callee := .builtin .copy, args := ⟨[x, y]⟩, argTypes := ⟨[t, t']⟩ } => bif Nat.beq t t' then cpX X S o.dst t x y else none
  | _ => none
def mkQ (X : Cx) (S : SS FM) (o : Oper) : XM FM := match o.op with
  | .makeSlice t x y => mkX X S o.dst t x y
  | _ => none
def bsQ (X : Cx) (S : SS FM) (o : Oper) : XV FM := match o.op with
  | .convert src dst x => bsX X S src dst x
  | _ => none
/-- The classes of conversions, which hang on types. -/
def convOv (P : Program) : Nat → List Oper → List (Nat × Nat)
  | _, [] => []
  | i, o :: r => match o.op with
    | .convert src dst _ => match P.underlying src, P.underlying dst with
      | some (.slice _), some .string => (i, 1) :: convOv P (i + 1) r
      | some (.slice _), some (.slice _) => (i, 3) :: convOv P (i + 1) r
      | some .string, some (.slice _) => (i, 2) :: convOv P (i + 1) r
      | _, _ => convOv P (i + 1) r
    | _ => convOv P (i + 1) r

/-! ### Calls -/
def evTvs (X : Cx) (S : SS FM) : List Operand → List TypeId → Option (List (TV FM))
  | [], _ => some []
  | x :: r, t :: ts => match evS X S (some t) x, evTvs X S r ts with
    | some v, some l => some (v :: l)
    | _, _ => none
  | x :: r, [] => match evS X S none x, evTvs X S r [] with
    | some v, some l => some (v :: l)
    | _, _ => none
def callT (X : Cx) (S : SS FM) (o : Oper) : Option (FuncId × List (TV FM)) := match o.op with
  | .call c => match c.callee with
    | .value f => match evS X S none f, evTvs X S c.args.toList c.argTypes.toList with
      | some (.fn g a b), some l => some (g, a.map .v ++ (l ++ b.map .v))
      | _, _ => none
    | _ => none
  | _ => none
def callOk (P : Program) (f : FuncId) : Bool := match P.funcs[f]? with
  | some fn => !(fn.name == "runtime.NumGoroutine") && fn.body.isSome
  | none => false
def findC {P : Program} (S : SS FM) (f : FuncId) (l : List (TV FM)) : List (Con P FM) → Option (List Prop × PS FM)
  | [] => none
  | c :: r => bif Nat.beq c.f f then (match sgMch S c.sig l with
      | some (x, φ) => some (φ ++ c.pre x, c.post x)
      | none => findC S f l r)
    else findC S f l r

/-! ### The walk -/
def putS (S : SS FM) (d : Option Nat) (v : TV FM) (x : List (Ad × Vw)) : SS FM := ⟨setT S.T d (some v), S.E ++ x.map (·.1), S.m, x.map (·.2) ++ S.V, S.R⟩
def wfck (S : SS FM) (y : List Ad) (v : TV FM) (m : List (Pc FM)) : Bool := v.lt (S.E.length + y.length) && mlt (S.E.length + y.length) m && mbk (S.E ++ y) m

def memF (f : Nat) : List Nat → Bool
  | [] => false
  | x :: r => Nat.beq x f || memF f r
/-- Calls that are gone through in place may do anything. -/
def inlOv (inl : List Nat) : Nat → List Oper → List (Nat × Nat)
  | _, [] => []
  | i, o :: r => match o.op with
    | .call c => match c.callee with
      | .value (.func f) => bif memF f inl then (i, 3) :: inlOv inl (i + 1) r else inlOv inl (i + 1) r
      | .value _ => (i, 3) :: inlOv inl (i + 1) r
      | _ => inlOv inl (i + 1) r
    | _ => inlOv inl (i + 1) r
def ovA (rc : RC FM) (id : Nat) (ops : Array Oper) : List (Nat × Nat) := ascO rc.ov id ++ (convOv rc.X.P 0 ops.toList ++ inlOv rc.inl 0 ops.toList)
def argT : List (TV FM) → Nat → ST FM
  | [], _ => []
  | v :: r, i => (i, some v) :: argT r (i + 1)
def bindT : List Nat → List (TV FM) → ST FM → ST FM
  | p :: ps, v :: vs, T => bindT ps vs ((p, some v) :: T)
  | _, _, T => T
def psOk (n : Nat) : List Nat → Bool
  | [] => true
  | p :: ps => Nat.blt p n && psOk n ps
def mkD (b : Nat) : Deferred := { target := .collected b, args := #[] }
/-- Marks are come to when a function ends. -/
def takeM : List (Pc FM) → List Nat → Option (List (Pc FM))
  | m, [] => some m
  | m, id :: r => match pcAt m id with
    | some (k, .mk _ false) => takeM (m.set k (.mk id true)) r
    | _ => none
def isBusy : LoopState → Bool
  | .busy => true
  | _ => false
/-- A call of a round. -/
def yldT (X : Cx) (S : SS FM) (o : Oper) : Option (Nat × List (TV FM)) := match o.op with
  | .call c => match c.callee with
    | .value f => match evS X S none f, evTvs X S c.args.toList c.argTypes.toList with
      | some (.v (.one (.yl id))), some l => some (id, l)
      | _, _ => none
    | _ => none
  | _ => none
/-- A function that is gone through in place. -/
def inlB (P : Program) (inl : List Nat) (f : FuncId) : Option (Func × Code) := bif memF f inl then (match P.funcs[f]? with
  | some fn => match fn.body with
    | some c => some (fn, c)
    | none => none
  | none => none) else none
def kbS (S : SS FM) (x : Operand) (b : Bool) : SS FM := match x with
  | .tmp t => { S with T := kbT S.T t b }
  | _ => S
/-- Operations that are no quiet ones. -/
def noQ (P : Program) (o : Oper) : Bool := match o.op with
  | .call c => match c.callee with
    | .builtin .append => true
    | .builtin .copy => true
    | .value _ => true
    | _ => false
  | .makeSlice _ _ _ => true
  | .convert src dst _ => match P.underlying src, P.underlying dst with
    | some (.slice _), some .string => true
    | some .string, some (.slice _) => true
    | some (.slice _), some (.slice _) => true
    | _, _ => false
  | _ => false
def stepN (X : Cx) (S : SS FM) (o : Oper) : QR FM := bif noQ X.P o then none else stepQ X S o
theorem stepN_some {X : Cx} {S : SS FM} {o : Oper} {r : List Prop × TV FM × List (Ad × Vw)} (h : stepN X S o = some r) : stepQ X S o = some r := by
  unfold stepN at h
  cases hq : noQ X.P o with
  | true => rw [hq] at h; cases h
  | false => rw [hq] at h; exact h
/-- A run of numbers that was written at a place gets a name. -/
def nmP : Pc FM → Option (List Int × (List Int → Pc FM))
  | .bk i [.b (.iz k l n)] ty => some (l, fun q => .bk i [.b (.iz k q n)] ty)
  | .sl i n0 cap [.b (.iz k l n)] e s => some (l, fun q => .sl i n0 cap [.b (.iz k q n)] e s)
  | _ => none
theorem nmP_spec {p : Pc FM} {l : List Int} {f : List Int → Pc FM} (h : nmP p = some (l, f)) : f l = p := by
  unfold nmP at h
  split at h
  · simp only [Option.some.injEq, Prod.mk.injEq] at h
    obtain ⟨rfl, rfl⟩ := h; rfl
  · simp only [Option.some.injEq, Prod.mk.injEq] at h
    obtain ⟨rfl, rfl⟩ := h; rfl
  · cases h
def nmS (X : Cx) (S : SS FM) (o : Oper) (S' : SS FM) : Option (List Int × (List Int → SS FM)) := match o.op with
  | .store _ y _ => match evS X S none y with
    | some (.v (.one (.qt id _ _ _ _))) => match pcAt S'.m id with
      | some (k, p) => match nmP p with
        | some (l, f) => some (l, fun q => ⟨S'.T, S'.E, S'.m.set k (f q), S'.V, S'.R⟩)
        | none => none
      | none => none
    | _ => none
  | _ => none
theorem nmS_spec {X : Cx} {S S' : SS FM} {o : Oper} {l : List Int} {f : List Int → SS FM} (h : nmS X S o S' = some (l, f)) : f l = S' := by
  unfold nmS at h
  split at h
  · split at h
    · split at h
      · rename_i k p hp
        split at h
        · rename_i l' g hg
          simp only [Option.some.injEq, Prod.mk.injEq] at h
          obtain ⟨rfl, rfl⟩ := h
          have h1 := (pcAt_spec (E := []) hp).1
          simp only [nmP_spec hg]
          have : S'.m.set k p = S'.m := by
            obtain ⟨hk, he⟩ := List.getElem?_eq_some_iff.1 h1
            rw [← he]; exact List.set_getElem_self hk
          rw [this]
        · cases h
      · cases h
    · cases h
  · cases h
def resQ (X : Cx) (S : SS FM) : List ResultVar → Option (List Prop × List (SV FM))
  | [] => some ([], [])
  | .tmp t :: r => match lookS S.T t, resQ X S r with
    | some (.v v), some (φ, l) => some (φ, v :: l)
    | _, _ => none
  | .cell t ty :: r => match lookS S.T t, resQ X S r with
    | some (.v (.one (.pt id off))), some (φ, l) => bif isbk S.E id then (loadS X.P S ty (.pt id off)).map fun (ψ, v) => (ψ ++ φ, v :: l) else none
    | _, _ => none
def tupS : List (SV FM) → TV FM
  | [v] => .v v
  | l => .tup l
/-- What a call that is gone through comes to: a function too. -/
def resV (X : Cx) (S : SS FM) (rs : List ResultVar) : Option (List Prop × TV FM) := match resQ X S rs with
  | some (φ, vs) => some (φ, tupS vs)
  | none => match rs with
    | [.tmp t] => match lookS S.T t with
      | some (.fn f a b) => some ([], .fn f a b)
      | _ => none
    | _ => none
def newP (rc : RC FM) (R : Pt → List (Fr FM) → SS FM → Prop) (ops : Array Oper) (dr : Bool) (ov : List (Nat × Nat)) (i : Nat) (rest : OT) (fs : List (Fr FM)) (S : SS FM) (o : Oper) : Prop := match newC rc.X S o with
  | some (c, ty, none) => bif Nat.ble 2 (flR (roOf fs) dr ops ov i) && cok S.E.length c then ∀ b : Nat, R (.ops ops dr ov rest) fs ⟨setT S.T o.dst (some (.v (.one (.pt S.E.length 0)))), S.E ++ [.bk b], [.bk S.E.length c ty] ++ S.m, S.V, S.R⟩ else False
  | some (c, ty, some (n, s)) => bif Nat.ble 2 (flR (roOf fs) dr ops ov i) && cok S.E.length c then ∀ b : Nat, R (.ops ops dr ov rest) fs ⟨setT S.T o.dst (some (.v (.one (.sc S.E.length 0 n n false)))), S.E ++ [.bk b], [.sl S.E.length n n c ty s] ++ S.m, S.V, S.R⟩ else False
  | none => False
/-- Behind a function that was gone through in place. -/
def clEnd (rc : RC FM) (R : Pt → List (Fr FM) → SS FM → Prop) (ops : Array Oper) (dr : Bool) (ov : List (Nat × Nat)) (rest : OT) (dst : Option Nat) (T : ST FM) (fn : Func) (fs : List (Fr FM)) (S : SS FM) : Prop := match resV rc.X S fn.results.toList with
  | some (φ, v) => andL φ (R (.ops ops dr ov rest) fs ⟨setT T dst (some v), S.E, S.m, S.V, S.R⟩)
  | none => False
/-- Behind the function that was ranged over. -/
def rfEnd (R : Pt → List (Fr FM) → SS FM → Prop) (T : ST FM) (bD id : Nat) (fs : List (Fr FM)) (S : SS FM) : Prop := match pcAt S.m id with
  | some (k, .lp _ r st pd) => bif isBusy st then False else match pd with
    | none => R .nrm (.df [mkD bD] [Nat.pred id] :: fs) ⟨T, S.E, S.m.set k (.lp id r .exhausted none), S.V, S.R⟩
    | some (.exit i) => R (.ext i) (.df [mkD bD] [Nat.pred id] :: fs) ⟨T, S.E, S.m.set k (.lp id r .exhausted (some (.exit i))), S.V, S.R⟩
    | some .ret => R .ret (.df [mkD bD] [Nat.pred id] :: fs) ⟨T, S.E, S.m.set k (.lp id r .exhausted (some .ret)), S.V, S.R⟩
    | _ => False
  | _ => False
/-! ### Maps -/
/-- A type whose nought is the whole number 0. -/
def zi (P : Program) (V : TypeId) : Bool := match zvB P V with
  | some (.int .i64 z) => decide (z = 0)
  | _ => false
/-- A type of maps from arrays of bytes to whole numbers: the types of keys and of values, how long keys are. -/
def mapT (P : Program) (t : TypeId) : Option (TypeId × TypeId × Nat) := match P.underlying t with
  | some (.map K V) => match P.underlying K with
    | some (.array n _) => bif arrB P K n && zi P V then some (K, V, n) else none
    | _ => none
  | _ => none
def lookM (X : Cx) (S : SS FM) (o : Oper) : Option (TV FM) := match o.op with
  | .lookup t x k true => match mapT X.P t with
    | some (K, _, n) => match evS X S none x, evS X S (some K) k with
      | some (.v (.one (.mv id))), some (.v (.ag [.b (.iz .u8 ks n')])) => match pcAt S.m id with
        | some (_, .mp _ n0 l) => bif Nat.beq n n' && Nat.beq n n0 then some (.tup [.one (.xv (.int .i64 ((mLk ks l).getD 0))), .one (.xv (.bool (mLk ks l).isSome))]) else none
        | _ => none
      | _, _ => none
    | none => none
  | _ => none
def putM (X : Cx) (S : SS FM) (o : Oper) : Option (Prop × SS FM) := match o.op with
  | .mapUpdate t x k y => match mapT X.P t, o.dst with
    | some (K, V, n), none => match evS X S none x, evS X S (some K) k, evS X S (some V) y with
      | some (.v (.one (.mv id))), some (.v (.ag [.b (.iz .u8 ks n')])), some (.v (.one (.xv (.int .i64 v)))) => match pcAt S.m id with
        | some (j, .mp id' n0 l) => bif Nat.beq n n' && Nat.beq n n0 then some (mLk ks l = none, ⟨S.T, S.E, S.m.set j (.mp id' n0 (l ++ [(ks, v)])), S.V, S.R⟩) else none
        | _ => none
      | _, _, _ => none
    | _, _ => none
  | _ => none
def mkM (X : Cx) (S : SS FM) (o : Oper) : Option (Nat → SS FM) := match o.op with
  | .makeMap t none => (mapT X.P t).map fun q b => ⟨setT S.T o.dst (some (.v (.one (.mv S.E.length)))), S.E ++ [.bk b], [.mp S.E.length q.2.2 []] ++ S.m, S.V, S.R⟩
  | _ => none
/-! ### Regions in which loads and stores stand in no order: what is stored to is parted from what is read -/
def isIn (D : List Nat) (p : Pc FM) : Bool := match p.id? with
  | some i => memF i D
  | none => false
def dpt (D : List Nat) : List (Pc FM) → List (Pc FM)
  | [] => []
  | p :: m => bif isIn D p then p :: dpt D m else dpt D m
def cpt (D : List Nat) : List (Pc FM) → List (Pc FM)
  | [] => []
  | p :: m => bif isIn D p then cpt D m else p :: cpt D m
/-- What can be read of pieces. -/
def rOfM : List (Pc FM) → List (Nat × Ce FM)
  | [] => []
  | .bk id c _ :: m => bif noF c then (id, c) :: rOfM m else rOfM m
  | .sl id _ _ c _ _ :: m => bif noF c then (id, c) :: rOfM m else rOfM m
  | .rd id c :: m => bif noF c then (id, c) :: rOfM m else rOfM m
  | .fz rs _ :: m => rs ++ rOfM m
  | .pr _ :: m => rOfM m
  | .lp _ _ _ _ :: m => rOfM m
  | .mk _ _ :: m => rOfM m
  | .mp _ _ _ :: m => rOfM m
/-- What a temporary holds, as far as it is known ahead of a region. -/
def resT (X : Cx) (S : SS FM) (ops : List Oper) : Nat → Operand → Option (TV FM)
  | 0, _ => none
  | f + 1, x => match evS X S none x with
    | some v => some v
    | none => match x with
      | .tmp t => match ops.find? fun o => o.dst == some t with
        | some o => match o.op with
          | .move y => resT X S ops f y
          | .assign y => resT X S ops f y
          | _ => none
        | none => none
      | _ => none
/-- What block an address is of, as far as it is known ahead of a region. -/
def adrT (X : Cx) (S : SS FM) (ops : List Oper) : Nat → Operand → Option Nat
  | 0, _ => none
  | f + 1, x => match evS X S none x with
    | some (.v (.one (.pt id _))) => some id
    | some _ => none
    | none => match x with
      | .tmp t => match ops.find? fun o => o.dst == some t with
        | some o => match o.op with
          | .move y => adrT X S ops f y
          | .assign y => adrT X S ops f y
          | .nilCheck y => adrT X S ops f y
          | .fieldAddr _ y _ => adrT X S ops f y
          | .indexAddr _ y _ => adrT X S ops f y
          | _ => none
        | none => none
      | _ => none
/-- What is stored to and was there. -/
def addI (id : Nat) (l : List Nat) : List Nat := bif memF id l then l else id :: l
def dIds (X : Cx) (S : SS FM) (ops : List Oper) : List Oper → List Nat
  | [] => []
  | o :: r => match o.op with
    | .store _ y _ => match adrT X S ops 9 y with
      | some id => addI id (dIds X S ops r)
      | none => dIds X S ops r
    | .call { callee := .builtin .append, args := ⟨x :: _⟩, argTypes := _ } => match resT X S ops 9 x with
      | some (.v (.one (.sc id _ _ _ _))) => addI id (dIds X S ops r)
      | _ => dIds X S ops r
    | _ => dIds X S ops r
def stOv : Nat → List Oper → List (Nat × Nat)
  | _, [] => []
  | i, o :: r => match o.op with
    | .store _ _ _ => (i, 2) :: stOv (i + 1) r
    | .call { callee := .builtin .append, args := _, argTypes := _ } => (i, 2) :: stOv (i + 1) r
    | _ => stOv (i + 1) r
/-- The pieces in their order again: the new ones in front, in the order of the operations that made them. -/
def opIds (n0 : Nat) (T : ST FM) : List Oper → List Nat
  | [] => []
  | o :: r => match o.dst.bind (lookS T) with
    | some (.v (.one (.pt id 0))) => bif Nat.ble n0 id && !(memF id (opIds n0 T r)) then id :: opIds n0 T r else opIds n0 T r
    | some (.v (.one (.sc id 0 _ _ _))) => bif Nat.ble n0 id && !(memF id (opIds n0 T r)) then id :: opIds n0 T r else opIds n0 T r
    | _ => opIds n0 T r
def newIx (ids : List Nat) : Nat → List (Pc FM) → List Nat
  | _, [] => []
  | i, p :: m => match p.id? with
    | some id => bif memF id ids then newIx ids (i + 1) m else i :: newIx ids (i + 1) m
    | none => i :: newIx ids (i + 1) m
def idIx (m : List (Pc FM)) : List Nat → List Nat → List Nat
  | [], l => l
  | id :: r, l => match pcAt m id with
    | some (k, _) => idIx m r (k :: l)
    | none => idIx m r l
def orgIx (D : List Nat) : Nat → Nat → List (Pc FM) → List Nat
  | _, _, [] => []
  | d, c, p :: r => bif isIn D p then d :: orgIx D (d + 1) c r else c :: orgIx D d (c + 1) r
def pickM (L : List (Pc FM)) : List Nat → Option (List (Pc FM))
  | [] => some []
  | k :: r => match L[k]?, pickM L r with
    | some p, some l => some (p :: l)
    | _, _ => none
def nodupN : List Nat → Bool
  | [] => true
  | k :: r => !(memF k r) && nodupN r
def mrgIx (D ids : List Nat) (m0 m1 : List (Pc FM)) : List Nat :=
  newIx ids 0 (m1.take (m1.length - (dpt D m0).length)) ++ (idIx (m1.take (m1.length - (dpt D m0).length)) ids [] ++ orgIx D (m1.length - (dpt D m0).length) m1.length m0)
def mrgD (D : List Nat) (ids : List Nat) (m0 m1 : List (Pc FM)) : Option (List (Pc FM)) := bif nodupN (mrgIx D ids m0 m1) then pickM (m1 ++ cpt D m0) (mrgIx D ids m0 m1) else none
/-- A new block, and what then. -/
def newK (X : Cx) (S : SS FM) (o : Oper) (K : SS FM → Prop) : Prop := match newC X S o with
  | some (c, ty, none) => bif cok S.E.length c then ∀ b : Nat, K ⟨setT S.T o.dst (some (.v (.one (.pt S.E.length 0)))), S.E ++ [.bk b], [.bk S.E.length c ty] ++ S.m, S.V, S.R⟩ else False
  | some (c, ty, some (n, s)) => bif cok S.E.length c then ∀ b : Nat, K ⟨setT S.T o.dst (some (.v (.one (.sc S.E.length 0 n n false)))), S.E ++ [.bk b], [.sl S.E.length n n c ty s] ++ S.m, S.V, S.R⟩ else False
  | none => False
def drun (rc : RC FM) (N : Nat) (ops : Array Oper) (cl : Nat → Nat) : OT → SS FM → (SS FM → Prop) → Prop
  | .nil, S, K => K S
  | .br t u, S, K => drun rc N ops cl t S K ∧ drun rc N ops cl u S K
  | .s i rest, S, K => match ops[i]? with
    | none => False
    | some o => bif !(dstOk N o.dst) then False else match gst S.T ops o with
      | some .skip => drun rc N ops cl rest { S with T := setT S.T o.dst (skV ops i) } K
      | some .want => match o.op with
        | .store ty y z => match evS rc.X S none y, evS rc.X S (some ty) z, sizeB rc.X.P ty, o.dst with
          | some (.v (.one (.pt id off))), some (.v v), some n, none => match pcAt S.m id with
            | some (k, .bk j c t) => bif Nat.beq (cl i) 2 && Nat.beq (cn v.ce) n && cok S.E.length v.ce then (match cput c off v.ce with
                | some c' => drun rc N ops cl rest { S with m := S.m.set k (.bk j c' t) } K
                | none => False) else False
            | _ => False
          | _, _, _, _ => False
        | .alloc _ => bif Nat.ble 2 (cl i) then newK rc.X S o (fun S' => drun rc N ops cl rest S' K) else False
        | .box _ _ => bif Nat.ble 2 (cl i) then newK rc.X S o (fun S' => drun rc N ops cl rest S' K) else False
        | .buildSlice _ _ _ => bif Nat.ble 2 (cl i) then newK rc.X S o (fun S' => drun rc N ops cl rest S' K) else False
        | _ => match stepN rc.X ⟨S.T, S.E, [], S.V, S.R⟩ o with
          | some (φ, v, x) => bif Nat.ble (cl i) 1 && (!(isLd o.op) || Nat.beq (cl i) 1) then andL φ (drun rc N ops cl rest (putS S o.dst v x) K) else False
          | none => match dapQ rc.X S o with
            | some (φ0, S2) => match appQ rc.X S2 o with
              | some (φ, hy, g) => bif Nat.beq (cl i) 2 then andL φ0 (andL φ (∀ A : Option Addr, ∀ q : Nat, impL (hy q) (drun rc N ops cl rest (g A q) K))) else False
              | none => False
            | none => match appQ rc.X S o with
            | some (φ, hy, g) => bif Nat.beq (cl i) 2 then andL φ (∀ A : Option Addr, ∀ q : Nat, impL (hy q) (drun rc N ops cl rest (g A q) K)) else False
            | none => match callT rc.X S o with
            | some (f, l) => match findC S f l rc.cons with
              | some (φ, p) => bif Nat.ble 2 (cl i) && tvs1 l && callOk rc.X.P f then andL φ (∀ y : p.Y, bif wfck S (p.E y) ((p.ret y).sh S.E.length) (msh S.E.length (p.m y)) then
                  impL ((p.ret y).hy ++ (mhy (p.m y) ++ p.fact y)) (drun rc N ops cl rest ⟨setT S.T o.dst (some ((p.ret y).sh S.E.length)), S.E ++ p.E y, msh S.E.length (p.m y) ++ S.m, S.V, S.R⟩ K) else False) else False
              | none => False
            | none => False
      | _ => False
/-- New blocks of a region in the order of the operations, whatever order was drawn. -/
def nwIds (T : ST FM) : List Oper → List Nat
  | [] => []
  | o :: r => match o.op with
    | .alloc _ => match o.dst.bind (lookS T) with
      | some (.v (.one (.pt id 0))) => id :: nwIds T r
      | _ => nwIds T r
    | .box _ _ => match o.dst.bind (lookS T) with
      | some (.v (.one (.pt id 0))) => id :: nwIds T r
      | _ => nwIds T r
    | _ => nwIds T r
def othIx (ids : List Nat) : Nat → List (Pc FM) → List Nat
  | _, [] => []
  | i, p :: m => match p.id? with
    | some id => bif memF id ids then othIx ids (i + 1) m else i :: othIx ids (i + 1) m
    | none => i :: othIx ids (i + 1) m
def srtM (ids : List Nat) (m : List (Pc FM)) : List (Pc FM) := match ids with
  | _ :: _ :: _ => bif nodupN (idIx m ids [] ++ othIx ids 0 m) then (match pickM m (idIx m ids [] ++ othIx ids 0 m) with
      | some m' => m'
      | none => m) else m
  | _ => m
def srtS (dr : Bool) (ops : Array Oper) (S : SS FM) : SS FM := bif dr then ⟨S.T, S.E, srtM (nwIds S.T ops.toList) S.m, S.V, S.R⟩ else S
/-- A block is read that is stored to: all orders are gone through. -/
def ldOv : Nat → List Oper → List (Nat × Nat)
  | _, [] => []
  | i, o :: r => match o.op with
    | .load _ _ => (i, 3) :: ldOv (i + 1) r
    | _ => ldOv (i + 1) r
def selfLd (X : Cx) (S : SS FM) (ops : List Oper) : List Oper → Bool
  | [] => false
  | o :: r => match o.op with
    | .load _ y => match adrT X S ops 9 y with
      | some id => memF id (dIds X S ops ops) || selfLd X S ops r
      | none => selfLd X S ops r
    | _ => selfLd X S ops r
def step (rc : RC FM) (R : Pt → List (Fr FM) → SS FM → Prop) : Pt → List (Fr FM) → SS FM → Prop
  | .code c, fs, S => match c with
    | .skip => R .nrm fs S
    | .seq a b => match (fid b).bind (fun k => ascF rc.Ca (keyF k fs)) with
      | none => R (.code a) (.sq b :: fs) S
      | some A => R (.code a) (.hd (A S) S (wrC a) none :: fs) S ∧ ∀ y : (A S).α, bif (A S).ck S y then impL (sthy ((A S).T S.E.length y) ++ (mhy ((A S).m S.E.length y) ++ (A S).inv y)) (R (.code b) fs ((A S).hd S (wrC a) y)) else False
    | .cond x a b => match evS rc.X S none x with
      | some (.v (.one (.kb true))) => R (.code a) fs S
      | some (.v (.one (.kb false))) => R (.code b) fs S
      | some (.v (.one (.xv (.bool g)))) => (g = true → R (.code a) fs (kbS S x true)) ∧ (g = false → R (.code b) fs (kbS S x false))
      | _ => False
    | .block i a => R (.code a) (.blk i :: fs) S
    | .loop a => match (fid a).bind (fun k => ascF rc.La (keyF k fs)) with
      | none => False
      | some A => (∃ y : (A S).α, bif (A S).ck S y && (A S).ck1 S S [] y then conj ((A S).eqs S S y ++ (A S).inv y) else False) ∧
          ∀ y : (A S).α, bif (A S).ck S y then impL (sthy ((A S).T S.E.length y) ++ (mhy ((A S).m S.E.length y) ++ (A S).inv y)) (R (.code a) (.hd (A S) S (wrC a) (some ((A S).mu y)) :: fs) ((A S).hd S (wrC a) y)) else False
    | .exit i => R (.ext i) fs S
    | .ret => R .ret fs S
    | .region id ops true => bif noDefer ops && Region.noSelect ops && okT ops (flD true ops (ovA rc id ops)) false (Array.replicate ops.size false) (ordOf ops (flD true ops (ovA rc id ops))) && rc.X.P.follows .mixedOrders then
        R (.ops ops true (ovA rc id ops) (ordOf ops (flD true ops (ovA rc id ops)))) (.np :: fs) S
      else bif selfLd rc.X S ops.toList ops.toList && Nat.ble ops.size 9 && (noDefer ops && Region.noSelect ops && okT ops (flD true ops (ldOv 0 ops.toList ++ ovA rc id ops)) false (Array.replicate ops.size false) (ordOf ops (flD true ops (ldOv 0 ops.toList ++ ovA rc id ops))) && rc.X.P.follows .mixedOrders) then
        R (.ops ops true (ldOv 0 ops.toList ++ ovA rc id ops) (ordOf ops (flD true ops (ldOv 0 ops.toList ++ ovA rc id ops)))) (.np :: fs) S
      else bif noDefer ops && Region.noSelect ops && okT ops (flD true ops (stOv 0 ops.toList ++ ovA rc id ops)) false (Array.replicate ops.size false) (ordOf ops (flD true ops (stOv 0 ops.toList ++ ovA rc id ops))) && rc.X.P.follows .mixedOrders then
        drun rc (nOf rc.N fs) ops (clD true ops (stOv 0 ops.toList ++ ovA rc id ops)) (ordOf ops (flD true ops (stOv 0 ops.toList ++ ovA rc id ops))) ⟨S.T, S.E, dpt (dIds rc.X S ops.toList ops.toList) S.m, S.V, rOfM (cpt (dIds rc.X S ops.toList ops.toList) S.m) ++ S.R⟩
          (fun S1 => match mrgD (dIds rc.X S ops.toList ops.toList) (opIds S.E.length S1.T ops.toList) S.m S1.m with
            | some m => R .nrm (.np :: fs) ⟨S1.T, S1.E, nrmF m, S1.V, S.R⟩
            | none => False)
      else False
    | .rangeFunc f ps a b => match evS rc.X S none f with
      | some (.fn g x y) => match inlB rc.X.P rc.inl g with
        | some (fn, c) => bif (roOf fs).isNone && callOk rc.X.P g && Nat.ble (x.length + (1 + y.length)) fn.ntmps && Nat.beq fn.results.size 0 && psOk (nOf rc.N fs).n ps.toList then
            ∀ (bD bl : Nat) (r : Loop), R (.code c) (.rf S.T S.E g fn (S.E.length + 1) r bl bD ps a b (nOf rc.N fs).n (keyB fs) :: fs) ⟨argT (x.map .v ++ (.v (.one (.yl (S.E.length + 1))) :: y.map .v)) 0, S.E ++ [.bk bD, .bk bl], .lp (S.E.length + 1) r .ready none :: .mk S.E.length false :: S.m, S.V, S.R⟩
          else False
        | none => False
      | _ => False
    | .region id ops false => bif noDefer ops then R (.ops ops false (ovA rc id ops) (rng 0 ops.size)) fs S else False
    | _ => False
  | .ops ops dr _ .nil, fs, S => R .nrm fs (srtS dr ops S)
  | .ops ops dr ov (.br t u), fs, S => R (.ops ops dr ov t) fs S ∧ R (.ops ops dr ov u) fs S
  | .ops ops dr ov (.s i rest), fs, S => match ops[i]? with
    | none => False
    | some o => bif !(dstOk (nOf rc.N fs) o.dst) then False else
      match gst S.T ops o with
      | none => False
      | some .skip => R (.ops ops dr ov rest) fs { S with T := setT S.T o.dst (skV ops i) }
      | some (.ask t g) => match findPick ops t 60 (.s i rest) with
          | some (k + 1) => match qrun rc.X (nOf rc.N fs) ops (flR (roOf fs) dr ops ov) S (k + k + 9) (k + 1) (.s i rest) S.T with
            | some (φ, T') => andL φ (R (.ops ops dr ov (dropO (k + 1) (.s i rest))) fs { S with T := T' })
            | none => (g = true → R (.ops ops dr ov (.s i rest)) fs { S with T := kbT S.T t true }) ∧ (g = false → R (.ops ops dr ov (.s i rest)) fs { S with T := kbT S.T t false })
          | _ => (g = true → R (.ops ops dr ov (.s i rest)) fs { S with T := kbT S.T t true }) ∧ (g = false → R (.ops ops dr ov (.s i rest)) fs { S with T := kbT S.T t false })
      | some .want => match o.op with
        | .pick (.tmp c) a b => match pickQ rc.X S c a b o.type with
          | some v => bif Nat.ble (flR (roOf fs) dr ops ov i) 1 then R (.ops ops dr ov rest) fs (putS S o.dst v []) else False
          | none => match lookS S.T c with
            | some (.v (.one (.xv (.bool g)))) => (g = true → R (.ops ops dr ov (.s i rest)) fs { S with T := kbT S.T c true }) ∧ (g = false → R (.ops ops dr ov (.s i rest)) fs { S with T := kbT S.T c false })
            | _ => False
        | .store _ _ _ => match stS rc.X S o with
          | some (φ, S') => bif Nat.beq (flR (roOf fs) dr ops ov i) 3 then andL φ (match nmS rc.X S o S' with
              | some (l, f) => ∀ q : List Int, q = l → R (.ops ops dr ov rest) fs (f q)
              | none => R (.ops ops dr ov rest) fs S') else False
          | none => match (dfzQ rc.X S o).bind (fun S2 => putQ rc.X S2 o) with
            | some (φ, ⟨_, l, g⟩) => bif Nat.beq (flR (roOf fs) dr ops ov i) 3 then andL φ (∀ q, q = l → R (.ops ops dr ov rest) fs (g q)) else False
            | none => False
        | .panic x => match evS rc.X S none x with
          | some (.v (.one (.xv (.iface ty v)))) => bif Nat.beq (flR (roOf fs) dr ops ov i) 3 then R (.pan (.xv (.iface ty v))) fs S else False
          | _ => False
        | .alloc _ => newP rc R ops dr ov i rest fs S o
        | .box _ _ => newP rc R ops dr ov i rest fs S o
        | .makeMap _ _ => match mkM rc.X S o with
          | some g => bif Nat.ble 2 (flR (roOf fs) dr ops ov i) then ∀ b : Nat, R (.ops ops dr ov rest) fs (g b) else False
          | none => False
        | .lookup _ _ _ _ => match lookM rc.X S o with
          | some v => bif Nat.beq (flR (roOf fs) dr ops ov i) 1 then R (.ops ops dr ov rest) fs (putS S o.dst v []) else False
          | none => False
        | .mapUpdate _ _ _ _ => match putM rc.X S o with
          | some (φ, S') => bif Nat.beq (flR (roOf fs) dr ops ov i) 3 then φ ∧ R (.ops ops dr ov rest) fs S' else False
          | none => False
        | .buildSlice _ _ _ => newP rc R ops dr ov i rest fs S o
        | _ => match dldQ rc.X S o with
          | some (φ, v, x, y) => bif Nat.beq (flR (roOf fs) dr ops ov i) 1 then andL φ (R (.ops ops dr ov rest) fs ⟨setT S.T o.dst (some (.v v)), S.E ++ x, S.m, S.V, y ++ S.R⟩) else False
          | none => match dldM rc.X S o with
          | some (φ, l) => bif Nat.beq (flR (roOf fs) dr ops ov i) 1 then andL φ (altL l (R (.ops ops dr ov rest) fs)) else False
          | none => match stepN rc.X S o with
          | some (φ, v, x) => bif (Nat.ble (flR (roOf fs) dr ops ov i) 1 && (!(isLd o.op) || Nat.beq (flR (roOf fs) dr ops ov i) 1)) || Nat.beq (flR (roOf fs) dr ops ov i) 3 then andL φ (R (.ops ops dr ov rest) fs (putS S o.dst v x)) else False
          | none => match dapQ rc.X S o with
            | some (φ0, S2) => match appQ rc.X S2 o with
              | some (φ, hy, g) => bif Nat.beq (flR (roOf fs) dr ops ov i) 3 then andL φ0 (andL φ (∀ A : Option Addr, ∀ q : Nat, impL (hy q) (R (.ops ops dr ov rest) fs (g A q)))) else False
              | none => False
            | none => match appQ rc.X S o with
            | some (φ, hy, g) => bif Nat.beq (flR (roOf fs) dr ops ov i) 3 then andL φ (∀ A : Option Addr, ∀ q : Nat, impL (hy q) (R (.ops ops dr ov rest) fs (g A q))) else False
            | none => match mkQ rc.X S o with
            | some (φ, g) => bif Nat.ble 2 (flR (roOf fs) dr ops ov i) then andL φ (∀ A : Option Addr, R (.ops ops dr ov rest) fs (g A)) else False
            | none => match cpQ rc.X S o with
            | some (φ, S') => bif Nat.beq (flR (roOf fs) dr ops ov i) 3 then andL φ (R (.ops ops dr ov rest) fs S') else False
            | none => match bsQ rc.X S o with
            | some (φ, v) => bif Nat.beq (flR (roOf fs) dr ops ov i) 1 then andL φ (R (.ops ops dr ov rest) fs (putS S o.dst v [])) else False
            | none => match callT rc.X S o with
            | some (f, l) => match findC S f l rc.cons with
              | some (φ, p) => bif Nat.ble 2 (flR (roOf fs) dr ops ov i) && tvs1 l && callOk rc.X.P f then andL φ (∀ y : p.Y, bif wfck S (p.E y) ((p.ret y).sh S.E.length) (msh S.E.length (p.m y)) then
                  impL ((p.ret y).hy ++ (mhy (p.m y) ++ p.fact y)) (R (.ops ops dr ov rest) fs ⟨setT S.T o.dst (some ((p.ret y).sh S.E.length)), S.E ++ p.E y, nrmF (msh S.E.length (p.m y) ++ S.m), S.V, S.R⟩) else False) else False
              | none => match inlB rc.X.P rc.inl f with
                | some (fn, c) => bif Nat.beq (flR (roOf fs) dr ops ov i) 3 && callOk rc.X.P f && Nat.ble l.length fn.ntmps && Nat.ble fn.results.toList.length 4 then
                    R (.code c) (.cl ops dr ov rest o.dst S.T S.E f fn :: fs) ⟨argT l 0, S.E, S.m, S.V, S.R⟩ else False
                | none => False
            | none => match yldT rc.X S o with
              | some (id, l) => match rfOf fs id, pcAt S.m id with
                | some (T0, ps, a, b, r0, bl, n0, kb0), some (k, .lp _ r .ready none) => bif Nat.beq (flR (roOf fs) dr ops ov i) 3 && Nat.beq l.length ps.size then
                    r = r0 ∧ R (.code a) (.as b id bl :: .yd ops dr ov rest o.dst S.T S.E id bl n0 kb0 :: fs) ⟨bindT ps.toList l T0, S.E, S.m, S.V, S.R⟩ else False
                | _, _ => False
              | none => False
  | .nrm, [], S => rc.fin S
  | .nrm, .sq c :: fs, S => R (.code c) fs S
  | .nrm, .blk _ :: fs, S => R .nrm fs S
  | .nrm, .np :: fs, S => R .nrm fs S
  | .nrm, .hd L S0 ws m0 :: _, S => ∃ y : L.α, bif L.ck S0 y && L.ck1 S0 S ws y then conj (L.eqs S0 S y ++ (L.inv y ++ muL L m0 y)) else False
  | .nrm, .as b id l :: fs, S => match pcAt S.m id with
    | some (k, .lp _ r .ready pd) => R (.code b) fs { S with m := S.m.set k (.lp id r .busy pd) }
    | _ => False
  | .nrm, .yd ops dr ov rest dst T E id l n kb :: fs, S => match pcAt S.m id with
    | some (k, .lp _ r _ _) => R (.ops ops dr ov rest) fs ⟨setT T dst (some (.v (.one (.kb true)))), S.E, S.m.set k (.lp id r .ready none), S.V, S.R⟩
    | _ => False
  | .nrm, .rf T E g fn id r0 bl bD ps a b n kb :: fs, S => rfEnd R T bD id fs S
  | .nrm, .cl ops dr ov rest dst T _ _ fn :: fs, S => clEnd rc R ops dr ov rest dst T fn fs S
  | .nrm, .df ds ids :: [], S => match takeM S.m ids with
    | some m => rc.fin { S with m := m }
    | none => False
  | .nrm, .df ds ids :: .sq c :: fs, S => R (.code c) (.df ds ids :: fs) S
  | .nrm, .df ds ids :: .blk _ :: fs, S => R .nrm (.df ds ids :: fs) S
  | .nrm, .df ds ids :: .np :: fs, S => R .nrm (.df ds ids :: fs) S
  | .nrm, .df ds ids :: .df ds' ids' :: fs, S => R .nrm (.df (ds ++ ds') (ids ++ ids') :: fs) S
  | .nrm, .df ds ids :: .cl ops dr ov rest dst T _ _ fn :: fs, S => match takeM S.m ids with
    | some m => clEnd rc R ops dr ov rest dst T fn fs { S with m := m }
    | none => False
  | .nrm, .df _ _ :: _ :: _, _ => False
  | .ext i, .blk j :: fs, S => bif Nat.beq i j then R .nrm fs S else R (.ext i) fs S
  | .ext i, .sq _ :: fs, S => R (.ext i) fs S
  | .ext i, .np :: fs, S => R (.ext i) fs S
  | .ext i, .hd _ _ _ _ :: fs, S => R (.ext i) fs S
  | .ext i, .yd ops dr ov rest dst T E id l n kb :: fs, S => match pcAt S.m id with
    | some (k, .lp _ r _ _) => R (.ops ops dr ov rest) fs ⟨setT T dst (some (.v (.one (.kb false)))), S.E, S.m.set k (.lp id r .done (some (.exit i))), S.V, S.R⟩
    | _ => False
  | .ext i, .df ds ids :: .blk j :: fs, S => bif Nat.beq i j then R .nrm (.df ds ids :: fs) S else R (.ext i) (.df ds ids :: fs) S
  | .ext i, .df ds ids :: .sq _ :: fs, S => R (.ext i) (.df ds ids :: fs) S
  | .ext i, .df ds ids :: .np :: fs, S => R (.ext i) (.df ds ids :: fs) S
  | .ext i, .df ds ids :: .hd _ _ _ _ :: fs, S => R (.ext i) (.df ds ids :: fs) S
  | .ext i, .df ds ids :: .df ds' ids' :: fs, S => R (.ext i) (.df (ds ++ ds') (ids ++ ids') :: fs) S
  | .ext _, _, _ => False
  | .ret, [], S => rc.fin S
  | .ret, .cl ops dr ov rest dst T _ _ fn :: fs, S => clEnd rc R ops dr ov rest dst T fn fs S
  | .ret, .rf T E g fn id r0 bl bD ps a b n kb :: fs, S => rfEnd R T bD id fs S
  | .ret, .sq _ :: fs, S => R .ret fs S
  | .ret, .blk _ :: fs, S => R .ret fs S
  | .ret, .np :: fs, S => R .ret fs S
  | .ret, .hd _ _ _ _ :: fs, S => R .ret fs S
  | .ret, .yd ops dr ov rest dst T E id l n kb :: fs, S => match pcAt S.m id with
    | some (k, .lp _ r _ _) => R (.ops ops dr ov rest) fs ⟨setT T dst (some (.v (.one (.kb false)))), S.E, S.m.set k (.lp id r .done (some .ret)), S.V, S.R⟩
    | _ => False
  | .ret, .df ds ids :: [], S => match takeM S.m ids with
    | some m => rc.fin { S with m := m }
    | none => False
  | .ret, .df ds ids :: .sq _ :: fs, S => R .ret (.df ds ids :: fs) S
  | .ret, .df ds ids :: .blk _ :: fs, S => R .ret (.df ds ids :: fs) S
  | .ret, .df ds ids :: .np :: fs, S => R .ret (.df ds ids :: fs) S
  | .ret, .df ds ids :: .hd _ _ _ _ :: fs, S => R .ret (.df ds ids :: fs) S
  | .ret, .df ds ids :: .df ds' ids' :: fs, S => R .ret (.df (ds ++ ds') (ids ++ ids') :: fs) S
  | .ret, .df ds ids :: .cl ops dr ov rest dst T _ _ fn :: fs, S => match takeM S.m ids with
    | some m => clEnd rc R ops dr ov rest dst T fn fs { S with m := m }
    | none => False
  | .ret, _, _ => False
  | .pan v, .sq _ :: fs, S => R (.pan v) fs S
  | .pan v, .blk _ :: fs, S => R (.pan v) fs S
  | .pan v, .hd _ _ _ _ :: fs, S => R (.pan v) fs S
  | .pan v, .cl _ _ _ _ _ T _ _ _ :: fs, S => R (.pan v) fs ⟨T, S.E, S.m, S.V, S.R⟩
  | .pan _, _, _ => False

def run (rc : RC FM) : Nat → Pt → List (Fr FM) → SS FM → Prop
  | 0 => fun _ _ _ => False
  | f + 1 => step rc (run rc f)

/-! ### The end -/
def pr0 : S0 → S0 → List (Nat × Option Nat)
  | .pt i _, .pt j _ => [(j, some i)]
  | .qt i _ _ _ _, .qt j _ _ _ _ => [(j, some i)]
  | .sc i _ _ _ _, .sc j _ _ _ _ => [(j, some i)]
  | .mv i, .mv j => [(j, some i)]
  | .xv _, .sc j _ _ _ _ => [(j, none)]
  | _, _ => []
def prC : Ce FM → Ce FM → List (Nat × Option Nat)
  | .b (.cl x) :: c, .b (.cl y) :: d => pr0 x y ++ prC c d
  | _ :: c, _ :: d => prC c d
  | _, _ => []
def prS : SV FM → SV FM → List (Nat × Option Nat)
  | .one x, .one y => pr0 x y
  | .ag c, .ag d => prC c d
  | _, _ => []
def prL : List (SV FM) → List (SV FM) → List (Nat × Option Nat)
  | x :: l, y :: r => prS x y ++ prL l r
  | _, _ => []
def prV : TV FM → TV FM → List (Nat × Option Nat)
  | .v x, .v y => prS x y
  | .tup l, .tup r => prL l r
  | _, _ => []
def assoO : List (Nat × Option Nat) → Nat → Option (Option Nat)
  | [], _ => none
  | (a, b) :: r, t => bif Nat.beq a t then some b else assoO r t
/-- What is no longer written and is told by its place. -/
def rsM (E F : List Ad) (mp : List (Nat × Option Nat)) (rs : List (Nat × Ce FM)) : List (Nat × Ce FM) → Option (List Prop)
  | [] => some []
  | (id, c) :: r => bif noF c then match assoO mp id, rsM E F mp rs r with
    | some (some i), some φ => match rAt rs i with
      | some d => some ((bas E i 0 = bas F id 0) :: (uC 0 E F d c ++ φ))
      | none => none
    | some none, some φ => some (nilC c ++ φ)
    | _, _ => none
    else none
def selM (S : SS FM) (F : List Ad) (mp : List (Nat × Option Nat)) : List (Pc FM) → Option (List Prop × List (Option Nat))
  | [] => some ([], [])
  | .fz rs ds :: r => match selM S F mp r with
    | some (φ, ks) => match (fzLast S.m).bind fun k => (S.m[k]?).map fun p => (k, p) with
      | some (k, .fz rs0 ds0) => (rsM S.E F mp rs0 rs).map fun ψ => (ψ ++ (dsSub ds0 ds ++ φ), some k :: ks)
      | some _ => none
      | none => (rsM S.E F mp [] rs).map fun ψ => (ψ ++ (dsNil ds ++ φ), none :: ks)
    | none => none
  | q :: r => match q.id?.bind (assoO mp), selM S F mp r with
    | some (some i), some (φ, ks) => match pcAt S.m i with
      | some (k, p) => some (uP 0 S.E F p q ++ φ, some k :: ks)
      | none => none
    | some none, some (φ, ks) => match q with
      | .sl id n cap c _ _ => some ((bas F id 0 = none) :: (n = 0) :: (cap = 0) :: (nilC c ++ φ), none :: ks)
      | .rd _ c => some (nilC c ++ φ, none :: ks)
      | _ => none
    | _, _ => none
def nodupO : List (Option Nat) → Bool
  | [] => true
  | none :: r => nodupO r
  | some k :: r => !(r.contains (some k)) && nodupO r
def nrmS (S : SS FM) : SS FM := ⟨S.T, S.E, nrmF S.m, S.V, S.R⟩
def finS (X : Cx) (rs : List ResultVar) (p : PS FM) (S : SS FM) : Prop := match resQ X S rs with
  | some (φ, vs) => bif !(Nat.ble rs.length 4) then False else andL φ (∃ y : p.Y, match selM (nrmS S) (p.E y) (prV (tupS vs) (p.ret y)) (p.m y) with
    | some (ψ, ks) => bif nodupO ks then conj (uV 0 S.E (p.E y) (tupS vs) (p.ret y) ++ (ψ ++ p.fact y)) else False
    | none => False)
  | none => False

end
end Go.Px
