/-
  The operations that yield a value, over states that are told by their shape. No condition.
-/
import Derived.Test.YtogpbbgcdeiplaaZ3
set_option linter.all false
namespace Go.Px
open Go.RowKit

/-! ### Constants -/
inductive Sh where
  | c
  | z (k : IntKind) (n : Nat)
  | f (j n : Nat)

def shpF (g : TypeId → Option (List Sh)) : List Field → Option (List Sh)
  | [] => some []
  | f :: fs => match g f.type, shpF g fs with
    | some a, some b => some (a ++ b)
    | _, _ => none
def rep {α : Type} (l : List α) : Nat → List α
  | 0 => []
  | n + 1 => l ++ rep l n
def asc : List (Nat × Nat) → Nat → Option Nat
  | [], _ => none
  | (a, b) :: r, t => bif Nat.beq a t then some b else asc r t
/-- A type's shape. -/
def shp (P : Program) (fm : List (Nat × Nat)) : Nat → TypeId → Option (List Sh)
  | 0, _ => none
  | d + 1, t => match P.underlying t with
    | some (.struct fs) => shpF (shp P fm d) fs.toList
    | some (.array n e) => match P.underlying e with
      | some (.int k) => some [.z k n]
      | _ => match asc fm e with
        | some j => some [.f j n]
        | none => (shp P fm d e).map fun s => rep s n
    | some _ => some [.c]
    | none => none

def veq : Value → Value → Bool
  | .int k a, .int k' b => decide (k = k') && decide (a = b)
  | .bool a, .bool b => a == b
  | .slice none 0 0, .slice none 0 0 => true
  | _, _ => false
theorem veq_spec {a b : Value} (h : veq a b = true) : a = b := by
  unfold veq at h
  split at h
  · simp only [Bool.and_eq_true, decide_eq_true_eq] at h
    obtain ⟨rfl, rfl⟩ := h; rfl
  · simp only [beq_iff_eq] at h; subst h; rfl
  · rfl
  · cases h
def strip : List Value → List Value → Option (List Value)
  | [], l => some l
  | a :: z, b :: l => bif veq a b then strip z l else none
  | _ :: _, [] => none
theorem strip_spec : ∀ {z l r : List Value}, strip z l = some r → l = z ++ r
  | [], l, r, h => by simp [strip] at h; exact h
  | a :: z, b :: l, r, h => by
    simp only [strip, cond_eq_ite] at h
    split at h
    · rename_i hc
      have := veq_spec hc; subst this
      rw [strip_spec h]; rfl
    · cases h
  | _ :: _, [], _, h => by simp [strip] at h
def tkz (k : IntKind) : Nat → List Value → Option (List Int × List Value)
  | 0, l => some ([], l)
  | n + 1, .int k' x :: l => bif decide (k = k') then (tkz k n l).map fun (a, r) => (x :: a, r) else none
  | _ + 1, _ => none
theorem tkz_spec {k : IntKind} : ∀ {n : Nat} {l : List Value} {a : List Int} {r : List Value}, tkz k n l = some (a, r) → l = iv k a ++ r ∧ a.length = n
  | 0, l, a, r, h => by
    simp only [tkz, Option.some.injEq, Prod.mk.injEq] at h
    obtain ⟨rfl, rfl⟩ := h
    exact ⟨rfl, rfl⟩
  | n + 1, l, a, r, h => by
    unfold tkz at h
    split at h
    · rename_i e; exact absurd e (Nat.succ_ne_zero _)
    · rename_i m k' x l' e
      simp only [Nat.succ.injEq] at e; subst e
      simp only [cond_eq_ite] at h
      split at h
      · rename_i hc
        have := of_decide_eq_true hc; subst this
        obtain ⟨⟨a', r'⟩, hr, h⟩ := Option.map_eq_some_iff.1 h
        simp only [Prod.mk.injEq] at h
        obtain ⟨rfl, rfl⟩ := h
        obtain ⟨g1, g2⟩ := tkz_spec hr
        exact ⟨by rw [g1]; rfl, by simp [g2]⟩
      · cases h
    · cases h
def zl (a : List Int) (n : Nat) : List Int := bif a.all (fun x => decide (x = 0)) then List.replicate n 0 else a
theorem zl_spec {a : List Int} {n : Nat} (h : a.length = n) : zl a n = a := by
  unfold zl
  simp only [cond_eq_ite]
  split
  · rename_i hc
    rw [List.all_eq_true] at hc
    refine (List.eq_replicate_iff.2 ⟨h, fun b hb => ?_⟩).symm
    exact of_decide_eq_true (hc b hb)
  · rfl

section
variable {FM : Nat → Fm}

def stripN (z : List Value) : Nat → List Value → Option (List Value)
  | 0, l => some l
  | n + 1, l => (strip z l).bind (stripN z n)
theorem stripN_spec {F : Fm} : ∀ {n : Nat} {l r : List Value}, stripN (c0den [] (F.sg F.d)) n l = some r → l = fden F (List.replicate n F.d) ++ r
  | 0, l, r, h => by simp [stripN] at h; subst h; rfl
  | n + 1, l, r, h => by
    obtain ⟨l', h1, h2⟩ := Option.bind_eq_some_iff.1 h
    rw [strip_spec h1, stripN_spec h2]
    simp [List.replicate_succ, fden]

/-- Cells that are at hand, put into a shape. -/
def rg : List Sh → List Value → Option (Ce FM × List Value)
  | [], l => some ([], l)
  | .c :: s, x :: l => bif x.oneCell' then (rg s l).map fun (c, r) => (.b (.cl (.xv x)) :: c, r) else none
  | .c :: _, [] => none
  | .z k n :: s, l => (tkz k n l).bind fun (a, l) => (rg s l).map fun (c, r) => (.b (.iz k (zl a n) n) :: c, r)
  | .f j n :: s, l => (stripN (c0den [] ((FM j).sg (FM j).d)) n l).bind fun l => (rg s l).map fun (c, r) => (.f j (List.replicate n (FM j).d) n :: c, r)
theorem rg_spec {E : List Ad} {N : Nat} : ∀ {s : List Sh} {l r : List Value} {c : Ce FM}, rg s l = some (c, r) → l = cden E c ++ r ∧ cwf c ∧ cok N c = true
  | [], l, r, c, h => by
    simp only [rg, Option.some.injEq, Prod.mk.injEq] at h
    obtain ⟨rfl, rfl⟩ := h
    exact ⟨rfl, trivial, rfl⟩
  | .c :: s, x :: l, r, c, h => by
    simp only [rg, cond_eq_ite] at h
    split at h
    · rename_i hc
      obtain ⟨⟨c', r'⟩, hr, h⟩ := Option.map_eq_some_iff.1 h
      simp only [Prod.mk.injEq] at h
      obtain ⟨rfl, rfl⟩ := h
      obtain ⟨g1, g2, g3⟩ := rg_spec (E := E) (N := N) hr
      exact ⟨by rw [g1]; rfl, ⟨trivial, g2⟩, by simp [cok, Sg.ok, Sg0.ok, S0.ok, S0.lt, hc, g3]⟩
    · cases h
  | .c :: _, [], _, _, h => by simp [rg] at h
  | .z k n :: s, l, r, c, h => by
    obtain ⟨⟨a, l'⟩, ha, h⟩ := Option.bind_eq_some_iff.1 h
    obtain ⟨⟨c', r'⟩, hr, h⟩ := Option.map_eq_some_iff.1 h
    simp only [Prod.mk.injEq] at h
    obtain ⟨rfl, rfl⟩ := h
    obtain ⟨g1, g2, g3⟩ := rg_spec (E := E) (N := N) hr
    obtain ⟨q1, q2⟩ := tkz_spec ha
    rw [zl_spec q2]
    refine ⟨by rw [q1, g1]; simp [cden, Sg.den, Sg0.den], ⟨q2, g2⟩, by simp [cok, Sg.ok, Sg0.ok, g3]⟩
  | .f j n :: s, l, r, c, h => by
    obtain ⟨l', ha, h⟩ := Option.bind_eq_some_iff.1 h
    obtain ⟨⟨c', r'⟩, hr, h⟩ := Option.map_eq_some_iff.1 h
    simp only [Prod.mk.injEq] at h
    obtain ⟨rfl, rfl⟩ := h
    obtain ⟨g1, g2, g3⟩ := rg_spec (E := E) (N := N) hr
    refine ⟨by rw [stripN_spec ha, g1]; simp [cden, Sg.den], ⟨⟨by simp, fun a ha => ?_⟩, g2⟩, by simp [cok, Sg.ok, g3]⟩
    rw [List.eq_of_mem_replicate ha]; exact (FM j).hd
def rgA (s : List Sh) (l : List Value) : Option (Ce FM) := match rg s l with
  | some (c, []) => some c
  | _ => none
theorem rgA_spec {E : List Ad} {N : Nat} {s : List Sh} {l : List Value} {c : Ce FM} (h : rgA s l = some c) : l = cden E c ∧ cwf c ∧ cok N c = true := by
  unfold rgA at h
  split at h
  · rename_i c' hr
    simp only [Option.some.injEq] at h; subst h
    obtain ⟨g1, g2, g3⟩ := rg_spec (E := E) (N := N) hr
    exact ⟨by simpa using g1, g2, g3⟩
  · cases h

/-- A shape for cells at hand, if no type tells one. -/
def cntz (k : IntKind) : List Value → Nat
  | .int k' _ :: l => bif decide (k = k') then cntz k l + 1 else 0
  | _ => 0
def shOf : Nat → List Value → List Sh
  | 0, _ => []
  | _, [] => []
  | d + 1, .int k x :: l => bif Nat.ble 4 (cntz k (.int k x :: l)) then .z k (cntz k (.int k x :: l)) :: shOf d ((.int k x :: l).drop (cntz k (.int k x :: l))) else .c :: shOf d l
  | d + 1, _ :: l => .c :: shOf d l

/-- What a program's walks are told once and for all: the forms of types' elements, and of what kinds no result wraps. -/
structure Cx where
  P : Program
  fm : List (Nat × Nat)
  nw : List IntKind

def cst (X : Cx) (ty : Option TypeId) (v : Value) : Option (TV FM) := match v with
  | .agg a => match ty.bind (shp X.P X.fm 30) with
    | some s => match rgA s a.toList with
      | some c => some (.v (.ag c))
      | none => (rgA (shOf (a.toList.length) a.toList) a.toList).map fun c => .v (.ag c)
    | none => (rgA (shOf (a.toList.length) a.toList) a.toList).map fun c => .v (.ag c)
  | .tuple _ => none
  | .bool b => some (.v (.one (.kb b)))
  | .string s => some (.v (.one (.st (s.data.toList.map fun u => (u.toNat : Int)))))
  | v => some (.v (.one (.xv v)))
def evS (X : Cx) (S : SS FM) (ty : Option TypeId) : Operand → Option (TV FM)
  | .tmp t => lookS S.T t
  | .const v => cst X ty v
  | .global g => some (.v (.one (.xv (.pointer (some ⟨g, 0, none⟩)))))
  | .func f => some (.fn f [] [])

theorem strOf' (s : ByteArray) : strOfNums (s.data.toList.map fun u => (u.toNat : Int)) = s := by
  obtain ⟨d⟩ := s
  unfold strOfNums
  congr 1
  apply Array.ext'
  rw [List.map_map]
  exact List.map_id'' (fun u => by simp only [Function.comp, Int.toNat_natCast, UInt8.ofNat_toNat]) _

theorem cst_spec {X : Cx} {ty : Option TypeId} {v : Value} {t : TV FM} (E : List Ad) (N : Nat) (h : cst X ty v = some t) : t.den E = v ∧ t.wf ∧ t.lt N = true := by
  unfold cst at h
  have fin : ∀ {s : List Sh} {a : Array Value} {c : Ce FM}, rgA s a.toList = some c → (TV.v (.ag c)).den E = .agg a ∧ (TV.v (.ag c)).wf ∧ (TV.v (.ag c)).lt N = true := by
    intro s a c h
    obtain ⟨g1, g2, g3⟩ := rgA_spec (E := E) (N := N) h
    exact ⟨by simp only [TV.den, SV.den]; rw [← g1], g2, g3⟩
  split at h
  · rename_i a
    split at h
    · split at h
      · rename_i hr
        simp only [Option.some.injEq] at h; subst h
        exact fin hr
      · obtain ⟨c, hr, rfl⟩ := Option.map_eq_some_iff.1 h
        exact fin hr
    · obtain ⟨c, hr, rfl⟩ := Option.map_eq_some_iff.1 h
      exact fin hr
  · cases h
  · simp only [Option.some.injEq] at h; subst h
    exact ⟨rfl, trivial, rfl⟩
  · simp only [Option.some.injEq] at h; subst h
    refine ⟨?_, trivial, rfl⟩
    simp only [TV.den, SV.den, S0.den]
    exact congrArg Value.string (strOf' _)
  · simp only [Option.some.injEq] at h; subst h
    exact ⟨rfl, trivial, rfl⟩

theorem evS_spec {X : Cx} {S : SS FM} (hS : S.WF) {ty : Option TypeId} {x : Operand} {t : TV FM} (h : evS X S ty x = some t) : evT S.Td x = some (t.den S.E) ∧ t.wf ∧ t.lt S.E.length = true := by
  cases x with
  | tmp i =>
    simp only [evS] at h
    simp only [evT, SS.Td, lookS_den, h, Option.map_some]
    exact ⟨trivial, stwf_look hS.t h, stlt_look hS.tl h⟩
  | const v =>
    obtain ⟨g1, g2, g3⟩ := cst_spec S.E S.E.length h
    exact ⟨by rw [g1]; rfl, g2, g3⟩
  | global g =>
    simp only [evS, Option.some.injEq] at h; subst h
    exact ⟨rfl, trivial, rfl⟩
  | func f =>
    simp only [evS, Option.some.injEq] at h; subst h
    refine ⟨?_, ⟨trivial, trivial⟩, ?_⟩
    · simp [evT, TV.den]
    · simp [TV.lt, svlt]

/-! ### Loads -/
def ldS (P : Program) (ty : TypeId) (g : Nat → Option (Ce FM)) : Option (SV FM) := match aggB P ty with
  | some true => (sizeB P ty).bind fun n => (g n).map .ag
  | some false => match g 1 with
    | some [.b (.cl x)] => some (.one x)
    | some [.b (.iz k l _)] => some (.one (.xv (.int k (l.getD 0 0))))
    | _ => none
  | none => none

theorem ldS_spec {P : Program} {ty : TypeId} {g : Nat → Option (Ce FM)} {v : SV FM} {E : List Ad} {N : Nat} {cs : List Value} {off : Nat} (h : ldS P ty g = some v)
    (hg : ∀ n c, g n = some c → (cs.drop off).take n = cden E c ∧ cwf c ∧ cok N c = true ∧ cn c = n ∧ off + n ≤ cs.length) :
    v.wf ∧ v.lt N = true ∧ ((aggB P ty = some false ∧ cs[off]? = some (v.den E)) ∨ (∃ n, aggB P ty = some true ∧ sizeB P ty = some n ∧ off + n ≤ cs.length ∧ v.den E = .agg ((cs.drop off).take n).toArray)) := by
  have one : ∀ {v : Value}, (cs.drop off).take 1 = [v] → cs[off]? = some v := by
    intro v h
    have : ((cs.drop off).take 1)[0]? = some v := by rw [h]; rfl
    rw [List.getElem?_take, if_pos (by omega), List.getElem?_drop] at this
    simpa using this
  unfold ldS at h
  split at h
  · rename_i ha
    obtain ⟨n, hn, h⟩ := Option.bind_eq_some_iff.1 h
    obtain ⟨c, hc, rfl⟩ := Option.map_eq_some_iff.1 h
    obtain ⟨g1, g2, g3, g4, g5⟩ := hg n c hc
    exact ⟨g2, g3, .inr ⟨n, ha, hn, g5, by rw [g1]; rfl⟩⟩
  · rename_i ha
    split at h
    · rename_i x hx
      simp only [Option.some.injEq] at h; subst h
      obtain ⟨g1, g2, g3, g4, g5⟩ := hg 1 _ hx
      simp only [cok, Sg.ok, Sg0.ok, Bool.and_eq_true] at g3
      exact ⟨trivial, g3.1.2, .inl ⟨ha, one g1⟩⟩
    · rename_i k l m hx
      simp only [Option.some.injEq] at h; subst h
      obtain ⟨g1, g2, g3, g4, g5⟩ := hg 1 _ hx
      have hl : l.length = m := g2.1
      simp only [cn, Sg.n, Sg0.n, Nat.add_zero] at g4
      refine ⟨trivial, rfl, .inl ⟨ha, one ?_⟩⟩
      rw [g1]
      obtain ⟨y, rfl⟩ : ∃ y, l = [y] := List.length_eq_one_iff.1 (by omega)
      rfl
    · cases h
  · cases h

def cdynm (c : Ce FM) (o i st : Nat) : Option Nat := (catq c o).bind fun (_, x, _) => (x.elem i st).map (·.2)
def dynG (c : Ce FM) (o i st o2 n : Nat) : Option (Ce FM) := (cdyn c o i st o2 n).map fun x => up0 x.1
theorem cdynm_of {c : Ce FM} {o i st o2 n m m' : Nat} {r : List Sg0} (h : cdyn c o i st o2 n = some (r, m)) (h' : cdynm c o i st = some m') : m = m' := by
  obtain ⟨⟨a, x, b⟩, h1, h⟩ := Option.bind_eq_some_iff.1 h
  obtain ⟨⟨e, m2⟩, h2, h⟩ := Option.bind_eq_some_iff.1 h
  obtain ⟨r', h3, h⟩ := Option.map_eq_some_iff.1 h
  simp only [Prod.mk.injEq] at h
  obtain ⟨rfl, rfl⟩ := h
  simp only [cdynm, h1, Option.bind_some, h2, Option.map_some, Option.some.injEq] at h'
  exact h'

def loadS (P : Program) (S : SS FM) (ty : TypeId) : S0 → Option (List Prop × SV FM)
  | .pt id off => (rdOf S.m S.V S.R 9 id).bind fun (c, φs) => (ldS P ty (csub c off)).map fun v => (φs, v)
  | .qt id o i st o2 => (rdOf S.m S.V S.R 9 id).bind fun (c, φs) => (cdynm c o i st).bind fun m => (ldS P ty (dynG c o i st o2)).map fun v => ((i < m) :: φs, v)
  | _ => none

theorem loadS_spec {P : Program} {S : SS FM} (hS : S.WF) {M : Nat → Prop} {w0 w : World} (H : HS M w0 w S) {ty : TypeId} {x : S0} {φs : List Prop} {v : SV FM} (h : loadS P S ty x = some (φs, v)) (hφ : All φs) :
    v.wf ∧ v.lt S.E.length = true ∧ ∃ (A : Option Addr) (cs : List Value) (off : Nat), x.den S.E = .pointer (some (adr A off)) ∧ Rd w A cs ∧
      ((aggB P ty = some false ∧ cs[off]? = some (v.den S.E)) ∨ (∃ n, aggB P ty = some true ∧ sizeB P ty = some n ∧ off + n ≤ cs.length ∧ v.den S.E = .agg ((cs.drop off).take n).toArray)) := by
  cases x with
  | pt id off =>
    obtain ⟨⟨c, φ'⟩, hc, h⟩ := Option.bind_eq_some_iff.1 h
    obtain ⟨v', hv, h⟩ := Option.map_eq_some_iff.1 h
    simp only [Prod.mk.injEq] at h
    obtain ⟨rfl, rfl⟩ := h
    obtain ⟨q1, q2, q3⟩ := rdOf_spec hS H hc hφ
    obtain ⟨g1, g2, g3⟩ := ldS_spec (E := S.E) (N := S.E.length) (cs := cden S.E c) (off := off) hv fun n r hr => by
      obtain ⟨p1, p2, p3, p4, p5⟩ := csub_spec (E := S.E) hr q2 q3
      exact ⟨p1, p2, p3, p4, by rw [clen q2]; exact p5⟩
    exact ⟨g1, g2, _, _, off, by simp only [S0.den, plc_adr], q1, g3⟩
  | qt id o i st o2 =>
    obtain ⟨⟨c, φ'⟩, hc, h⟩ := Option.bind_eq_some_iff.1 h
    obtain ⟨m, hm, h⟩ := Option.bind_eq_some_iff.1 h
    obtain ⟨v', hv, h⟩ := Option.map_eq_some_iff.1 h
    simp only [Prod.mk.injEq] at h
    obtain ⟨rfl, rfl⟩ := h
    obtain ⟨q1, q2, q3⟩ := rdOf_spec hS H hc hφ.2
    obtain ⟨g1, g2, g3⟩ := ldS_spec (E := S.E) (N := S.E.length) (cs := cden S.E c) (off := o + i * st + o2) hv fun n r hr => by
      obtain ⟨⟨r', m'⟩, hr', rfl⟩ := Option.map_eq_some_iff.1 hr
      have := cdynm_of hr' hm; subst this
      obtain ⟨p1, p2, p3, p4, p5⟩ := cdyn_spec (E := S.E) (N := S.E.length) hr' q2 hφ.1
      exact ⟨by rw [up0_den]; exact p1, up0_wf p2, up0_ok p3, by rw [up0_n]; exact p4, p5⟩
    exact ⟨g1, g2, _, _, o + i * st + o2, by simp only [S0.den, plc_adr], q1, g3⟩
  | xv v => cases h
  | kb b => cases h
  | st l => cases h
  | sc => cases h
  | yl => cases h
  | mv => cases h

/-! ### Whole numbers -/
def memK (k : IntKind) : List IntKind → Bool
  | [] => false
  | a :: l => decide (a = k) || memK k l
def ibin (nw : List IntKind) (cy : Bool) (op : BinOp) (k : IntKind) (a b : Int) : Option (List Prop × Value) :=
  match op with
  | .add => bif memK k nw then some ([k.min ≤ a + b, a + b ≤ k.max], .int k (a + b)) else some ([], .int k (k.wrap (a + b)))
  | .sub => bif memK k nw then some ([k.min ≤ a - b, a - b ≤ k.max], .int k (a - b)) else some ([], .int k (k.wrap (a - b)))
  | .mul => bif memK k nw then some ([k.min ≤ a * b, a * b ≤ k.max], .int k (a * b)) else some ([], .int k (k.wrap (a * b)))
  | .quo => some ([0 ≤ a, a ≤ k.max, 0 < b], .int k (a / b))
  | .rem => some ([0 ≤ a, 0 < b], .int k (a % b))
  | .and => some ([], .int k (bnd k a b))
  | .or => some ([], .int k (bor k a b))
  | .xor => some ([], .int k (bxr k a b))
  | .andNot => some ([], .int k (bnt k a b))
  | .shl => some (bif cy then [] else [0 ≤ b], .int k (shlV k a b))
  | .shr => some (bif cy then [] else [0 ≤ b], .int k (shrV k a b))
  | .eql => some ([], .bool (decide (a = b)))
  | .neq => some ([], .bool (!decide (a = b)))
  | .lss => some ([], .bool (decide (a < b)))
  | .leq => some ([], .bool (decide (a ≤ b)))
  | .gtr => some ([], .bool (decide (b < a)))
  | .geq => some ([], .bool (decide (b ≤ a)))

theorem wrap_in {k : IntKind} {x : Int} (h0 : k.min ≤ x) (h1 : x ≤ k.max) : k.wrap x = x := by
  cases k <;> simp only [IntKind.min, IntKind.max, IntKind.signed, IntKind.bits, IntKind.wrap] at * <;> simp at * <;> omega
theorem kmin_le (k : IntKind) : k.min ≤ 0 := by cases k <;> decide

theorem ibin_run {P : Program} {nw : List IntKind} {cy : Bool} {op : BinOp} {k k' : IntKind} {a b : Int} {φs : List Prop} {v : Value} (h : ibin nw cy op k a b = some (φs, v)) (hφ : All φs) (hcy : cy = true → 0 ≤ b) (t : TypeId) (x y : Operand)
    (hk : k = k' ∨ op = .shl ∨ op = .shr) (w : World) : ((do eqGuard op t x y (.int k a) (.int k' b); binOp op t (.int k a) (.int k' b)) : Sem Value).run P w = .ok v w := by
  have sh : ∀ {o : BinOp}, (o = .shl ∨ o = .shr) → All (bif cy then [] else [0 ≤ b]) → ¬ b < 0 := by
    intro o _ hh
    cases cy
    · have := hh.1; omega
    · have := hcy rfl; omega
  cases op <;> simp only [ibin, Option.some.injEq, Prod.mk.injEq, reduceCtorEq, cond_eq_ite] at h
  case add | sub | mul =>
    have hk : k = k' := by rcases hk with h | h | h <;> first | exact h | cases h
    subst hk
    split at h <;> simp only [Option.some.injEq, Prod.mk.injEq] at h <;> obtain ⟨rfl, rfl⟩ := h
    · simp [eqGuard, binOp, Op.intArith, wrap_in hφ.1 hφ.2.1]
    · simp [eqGuard, binOp, Op.intArith]
  case shl | shr =>
    obtain ⟨rfl, rfl⟩ := h
    have := sh (o := .shl) (Or.inl rfl) (by simpa [cond_eq_ite] using hφ)
    simp [eqGuard, binOp, Op.shift, shlV, shrV, this]
  case quo =>
    have hk : k = k' := by rcases hk with h | h | h <;> first | exact h | cases h
    subst hk
    obtain ⟨rfl, rfl⟩ := h
    obtain ⟨h1, h2, h3, -⟩ := hφ
    have hq : k.wrap (a.tdiv b) = a / b := by
      rw [Int.tdiv_eq_ediv_of_nonneg h1]
      have := kmin_le k
      have h5 : 0 ≤ a / b := Int.ediv_nonneg h1 (by omega)
      have h6 : a / b ≤ a := Int.ediv_le_self b h1
      exact wrap_in (by omega) (by omega)
    simp [eqGuard, binOp, Op.intDiv, show ¬ b = 0 by omega, hq]
  case rem =>
    have hk : k = k' := by rcases hk with h | h | h <;> first | exact h | cases h
    subst hk
    obtain ⟨rfl, rfl⟩ := h
    obtain ⟨h1, h3, -⟩ := hφ
    simp [eqGuard, binOp, Op.intDiv, show ¬ b = 0 by omega, Int.tmod_eq_emod_of_nonneg h1]
  all_goals
    have hk : k = k' := by rcases hk with h | h | h <;> first | exact h | cases h
    subst hk
    obtain ⟨rfl, rfl⟩ := h
    first
      | simp [eqGuard, binOp, Op.intBits, bnd, bor, bxr, bnt]; done
      | simp [eqGuard, binOp, Op.intCmp]; done
      | (simp [eqGuard, binOp, Op.intCmp]; first | rfl | (congr 1) | (by_cases h : a = b <;> simp [h]))
end
end Go.Px
