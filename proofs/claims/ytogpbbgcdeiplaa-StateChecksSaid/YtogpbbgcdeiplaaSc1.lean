/-
  Walks by computing, their engine and the plain laws under them, in parts. No condition.
-/
import Derived.OrdersHeld
import Derived.OrdersIn
import Derived.RangeFuncIn
import Derived.RangeFuncRecord
import Derived.Below
import Derived.WalkKit
import Derived.ChangeKeysEq
import Derived.Laws.StructEq
import Derived.OwnWalk
import Derived.Laws.OwnMore
import Derived.ProofKit
import Derived.Laws.IdiomStrings
import Derived.Laws.BytesString
import Derived.Laws.BytesArg
import Derived.Laws.Strings
import Derived.Laws.Runes
import Derived.MapKept
import Derived.WideKeyRuns
section
/-
  The base of this seat's walks: what a table of temporaries says of a frame, regions in a fixed order of their operations, memory as a list of known blocks. No condition.
-/
set_option linter.all false
namespace Go.Px
open Go.RowKit

abbrev Tab := List (Nat × Value)

/-- The value of a temporary, as far as it is known. -/
def look : Tab → Nat → Option Value
  | [], _ => none
  | (s, v) :: r, t => if s == t then some v else look r t

/-- How many temporaries an activation has, and what was put off in it. -/
structure FN where
  n : Nat
  D : List Deferred
instance : Coe FN Nat := ⟨FN.n⟩
/-- What a table says of a frame. -/
def Tm (N : FN) (T : Tab) (a : Act) : Prop :=
  a.defers = N.D ∧ a.tmps.size = N.n ∧ ∀ t v, look T t = some v → a.tmps[t]? = some v

def At (N : FN) (T : Tab) (w : World) (K : Act → World → Prop) : Prop := ∀ a, Tm N T a → K a w

theorem Tm.put {N : FN} {T : Tab} {a : Act} (h : Tm N T a) {d : Nat} (hd : d < N) (v : Value) : Tm N ((d, v) :: T) (a.put (some d) v) := by
  obtain ⟨h1, h2, h3⟩ := h
  refine ⟨h1, by simp [Act.put, h2], fun t u ht => ?_⟩
  simp only [look] at ht
  by_cases e : d = t
  · subst e
    simp only [beq_self_eq_true, if_true, Option.some.injEq] at ht
    subst ht
    simp [Act.put, h2, hd]
  · rw [if_neg (by simpa using e)] at ht
    simp only [Act.put]
    rw [Array.getElem?_setIfInBounds_ne e]
    exact h3 t u ht

/-- A table that says no more. -/
def pick (T : Tab) : List Nat → Option Tab
  | [] => some []
  | t :: r => match look T t, pick T r with
    | some v, some l => some ((t, v) :: l)
    | _, _ => none

theorem pick_spec {T : Tab} : ∀ {ks : List Nat} {T' : Tab}, pick T ks = some T' → ∀ t v, look T' t = some v → look T t = some v
  | [], T', h, t, v, hv => by simp [pick] at h; subst h; simp [look] at hv
  | k :: r, T', h, t, v, hv => by
    unfold pick at h
    split at h
    · rename_i u l hu hl
      simp at h; subst h
      simp only [look] at hv
      by_cases e : k = t
      · subst e; simp at hv; subst hv; exact hu
      · rw [if_neg (by simpa using e)] at hv; exact pick_spec hl t v hv
    · simp at h

theorem Tm.pick {N : FN} {T T' : Tab} {a : Act} (h : Tm N T a) {ks : List Nat} (hp : pick T ks = some T') : Tm N T' a :=
  ⟨h.1, h.2.1, fun t v ht => h.2.2 t v (pick_spec hp t v ht)⟩

/-! ### Operations that neither read nor write memory -/

def pureRun {α : Type} (P : Program) : Sem α → Option α
  | .pure a => some a
  | .program k => pureRun P (k P)
  | _ => none

theorem pureRun_spec {α : Type} {P : Program} : ∀ {s : Sem α} {x : α}, pureRun P s = some x → ∀ w, s.run P w = .ok x w
  | .pure a, x, h, w => by simp [pureRun] at h; subst h; rfl
  | .program k, x, h, w => by simp only [pureRun] at h; simp only [Sem.run]; exact pureRun_spec h w
  | .load .., _, h, _ => by simp [pureRun] at h
  | .store .., _, h, _ => by simp [pureRun] at h
  | .new .., _, h, _ => by simp [pureRun] at h
  | .shape .., _, h, _ => by simp [pureRun] at h
  | .freeze .., _, h, _ => by simp [pureRun] at h
  | .frozen .., _, h, _ => by simp [pureRun] at h
  | .getObj .., _, h, _ => by simp [pureRun] at h
  | .setObj .., _, h, _ => by simp [pureRun] at h
  | .choose .., _, h, _ => by simp [pureRun] at h
  | .sys .., _, h, _ => by simp [pureRun] at h
  | .mark .., _, h, _ => by simp [pureRun] at h
  | .halt .., _, h, _ => by simp [pureRun] at h

def evT (T : Tab) : Operand → Option Value
  | .tmp t => look T t
  | .const v => some v
  | .global g => some (.pointer (some ⟨g, 0, none⟩))
  | .func f => some (.func (.func f) #[] #[])

def evD (T : Tab) (x : Operand) : Value := (evT T x).getD undef

def known (T : Tab) (x : Operand) : Bool := (evT T x).isSome

theorem evT_spec {N : FN} {T : Tab} {a : Act} (h : Tm N T a) {x : Operand} {v : Value} (hx : evT T x = some v) : a.eval x = v := by
  cases x with
  | tmp t =>
    have := h.2.2 t v hx
    simp [Act.eval, this]
  | const u => simpa [evT, Act.eval] using hx
  | global g => simpa [evT, Act.eval] using hx
  | func f => simpa [evT, Act.eval] using hx

theorem evD_spec {N : FN} {T : Tab} {a : Act} (h : Tm N T a) {x : Operand} (hx : known T x = true) : a.eval x = evD T x := by
  cases hv : evT T x with
  | none => simp [known, hv] at hx
  | some v => rw [evT_spec h hv]; simp [evD, hv]

def isSelect : Op → Bool
  | .select .. => true
  | _ => false

/-- What an operation comes to, if it asks nothing of memory. -/
def opNext (P : Program) (T : Tab) (o : Oper) : Option Next :=
  if !isSelect o.op && o.op.operands.all (known T) then pureRun P (execOp (evD T) o) else none

theorem execOp_T {N : FN} {T : Tab} {a : Act} (h : Tm N T a) {o : Oper} (hs : isSelect o.op = false) (hk : o.op.operands.all (known T) = true) :
    execOp a.eval o = execOp (evD T) o :=
  execOp_congr o (by intro cs b e; rw [e] at hs; simp [isSelect] at hs) (fun x hx => evD_spec h (Array.all_eq_true_iff_forall_mem.1 hk x hx))

theorem opNext_spec {P : Program} {N : FN} {T : Tab} {a : Act} (h : Tm N T a) {o : Oper} {n : Next} (hn : opNext P T o = some n) (w : World) :
    (execOp a.eval o).run P w = .ok n w := by
  unfold opNext at hn
  split at hn
  · rename_i hc
    simp at hc
    rw [execOp_T h hc.1 (by simpa using hc.2)]
    exact pureRun_spec hn w
  · simp at hn

/-- Is the operation wanted? -/
def wantT (T : Tab) (ops : Array Oper) (o : Oper) : Option Bool :=
  match o.guard with
  | none => some true
  | some (j, want) =>
    match (ops[j]?).bind (·.dst) with
    | none => none
    | some t => match look T t with
      | none => none
      | some (.bool b) => some (b == want)
      | some _ => some false

theorem wantT_spec {N : FN} {T : Tab} {a : Act} (h : Tm N T a) {ops : Array Oper} {o : Oper} {b : Bool} (hw : wantT T ops o = some b) :
    Region.wanted o (yielded ops a.tmps) = b := by
  unfold wantT at hw
  unfold Region.wanted
  cases hg : o.guard with
  | none => simp [hg] at hw; simp [hw]
  | some g =>
    obtain ⟨j, want⟩ := g
    simp only [hg] at hw ⊢
    cases hd : (ops[j]?).bind (·.dst) with
    | none => simp [hd] at hw
    | some t =>
      simp only [hd] at hw
      cases hl : look T t with
      | none => simp [hl] at hw
      | some v =>
        have hv := h.2.2 t v hl
        have hy : yielded ops a.tmps j = match v with | .bool b => some b | _ => none := by
          unfold yielded
          rw [hd]
          simp only [Option.bind_some, hv]
          cases v <;> rfl
        rw [hy]
        cases v <;> simp [hl] at hw ⊢ <;> first | exact hw | (subst hw; simp) | skip

def putT (T : Tab) (d : Option Nat) (v : Value) : Tab :=
  match d with
  | some t => (t, v) :: T
  | none => T

def dstOk (N : Nat) (d : Option Nat) : Bool :=
  match d with
  | some t => decide (t < N)
  | none => true

theorem Tm.putT {N : FN} {T : Tab} {a : Act} (h : Tm N T a) {d : Option Nat} (hd : dstOk N d = true) (v : Value) : Tm N (putT T d v) (a.put d v) := by
  cases d with
  | none => exact h
  | some t => exact h.put (by simpa [dstOk] using hd) v

/-! ### A region in a fixed order of its operations -/

def Keep (w w' : World) : Prop := w.heap.size ≤ w'.heap.size ∧ ∀ k, k < w.heap.size → w'.heap[k]? = w.heap[k]?

theorem Keep.refl (w : World) : Keep w w := ⟨Nat.le_refl _, fun _ _ => rfl⟩
theorem Keep.trans {a b c : World} (h : Keep a b) (k : Keep b c) : Keep a c :=
  ⟨Nat.le_trans h.1 k.1, fun i hi => (k.2 i (Nat.lt_of_lt_of_le hi h.1)).trans (h.2 i hi)⟩

/-- No block goes, and those beside D stay. -/
def KeepD (d : Nat → Prop) (w w' : World) : Prop := w.heap.size ≤ w'.heap.size ∧ ∀ k, k < w.heap.size → ¬ d k → w'.heap[k]? = w.heap[k]?

theorem KeepD.refl (d : Nat → Prop) (w : World) : KeepD d w w := ⟨Nat.le_refl _, fun _ _ _ => rfl⟩
theorem KeepD.trans {d : Nat → Prop} {a b c : World} (h : KeepD d a b) (k : KeepD d b c) : KeepD d a c :=
  ⟨Nat.le_trans h.1 k.1, fun i hi hd => (k.2 i (Nat.lt_of_lt_of_le hi h.1) hd).trans (h.2 i hi hd)⟩
theorem Keep.toD {d : Nat → Prop} {w w' : World} (h : Keep w w') : KeepD d w w' := ⟨h.1, fun k hk _ => h.2 k hk⟩

def no : Nat → Prop := fun _ => False

/-- The classes of a region's operations, and the blocks that operations of class 2 may change. -/
structure FL where
  c : Nat → Nat
  d : Nat → Prop
  ro : Option Nat := none
instance : CoeFun FL (fun _ => Nat → Nat) := ⟨FL.c⟩
/-- In what worlds a quiet operation yields its value: 0: in all; else: in those that keep this one. -/
def In (d : Nat → Prop) (f : Nat) (w : World) : World → Prop := fun w' => f = 0 ∨ KeepD d w w'

/-- In what order the operations of a region are gone through: one behind the other; where two may come up, both ways. -/
inductive OT where
  | nil
  | s (i : Nat) (t : OT)
  | br (t u : OT)

def ol : List Nat → OT
  | [] => .nil
  | i :: r => .s i (ol r)
def rng : Nat → Nat → OT
  | _, 0 => .nil
  | i, n + 1 => .s i (rng (i + 1) n)
def OT.heads : OT → List Nat
  | .nil => []
  | .s i _ => [i]
  | .br t u => t.heads ++ u.heads

/-! ### Steps in a round of a range over a function, or in none -/
/-- No fence, and the round that an activation is of. -/
def FR (ro : Option Nat) : Fence := { Fence.wide with round := ro }
theorem Calls.toR {P : Program} {f : FuncId} {args : Array Value} {w : World} {R : Ending → World → Prop} (ro : Option Nat) (n : Nat) (h : Calls P f args w R) : CallsIn (FR ro) n P f args w R :=
  (callsIn_wide (n := n)).2 h
theorem Calls.ofR {P : Program} {f : FuncId} {args : Array Value} {w : World} {R : Ending → World → Prop} {ro : Option Nat} {n : Nat} (h : CallsIn (FR ro) n P f args w R) : Calls P f args w R :=
  (callsIn_wide (n := n)).1 h
/-- Code in a round's frame, or in none. -/
def Code.wpR (ro : Option Nat) (P : Program) (c : Code) (Q : Exit → Act → World → Prop) (a : Act) (w : World) : Prop := Code.wpIn (FR ro) 0 P c Q a w

/-- What an operation comes to. -/
def uponR (ro : Option Nat) (P : Program) (o : Oper) (a : Act) (next : Act → World → Prop) (Q : Exit → Act → World → Prop) : Result Next → Prop
  | .ok (.value v) w' => next (a.put o.dst v) w'
  | .ok .skip w' => next (a.put o.dst undef) w'
  | .ok (.enter f args) w' => Calls P f args w' fun
      | .returned v, w'' => next (a.put o.dst v) w''
      | .panicked chain, w'' => Q (.panic chain) a w''
      | .outgrown, _ => LetsOut Q
  | .ok (.round l f tmps assign body) w' => RoundIn (FR ro) 0 P l f tmps assign body w' fun
      | .returned v, w'' => next (a.put o.dst v) w''
      | .panicked chain, w'' => Q (.panic chain) a w''
      | .outgrown, _ => LetsOut Q
  | .halt (.panic v) w' => Q (.panic [{ v, recovered := false }]) a w'
  | _ => False
def operR (ro : Option Nat) (P : Program) (o : Oper) (a : Act) (w : World) (next : Act → World → Prop) (Q : Exit → Act → World → Prop) : Prop :=
  uponR ro P o a next Q ((execOp a.eval o).run P w)
theorem operR_mono {ro : Option Nat} {P : Program} {Q : Exit → Act → World → Prop} {o : Oper} {a : Act} {w : World} {K K' : Act → World → Prop} (h : ∀ a w, K a w → K' a w) (hh : operR ro P o a w K Q) : operR ro P o a w K' Q := by
  unfold operR at *
  generalize (execOp a.eval o).run P w = r at *
  cases r with
  | ok x w' =>
    cases x <;> simp only [uponR] at hh ⊢ <;>
      first
        | exact h _ _ hh
        | exact Calls.mono hh (fun e w'' he => by cases e <;> first | exact h _ _ he | exact he)
        | exact RoundIn.mono hh (fun e w'' he => by cases e <;> first | exact h _ _ he | exact he)
  | halt x w' => cases x <;> simp only [uponR] at hh ⊢ <;> exact hh
def wpOpR (ro : Option Nat) (P : Program) (ops : Array Oper) (Q : Exit → Act → World → Prop) (i : Nat) (K : Act → World → Prop) (a : Act) (w : World) : Prop :=
  match ops[i]? with
  | none => K a w
  | some o => if Region.wanted o (yielded ops a.tmps) then operR ro P o a w K Q else K (a.put o.dst undef) w
theorem wpOpR_mono {ro : Option Nat} {P : Program} {ops : Array Oper} {Q : Exit → Act → World → Prop} {i : Nat} {a : Act} {w : World} {K K' : Act → World → Prop} (h : ∀ a w, K a w → K' a w)
    (hh : wpOpR ro P ops Q i K a w) : wpOpR ro P ops Q i K' a w := by
  unfold wpOpR at *
  split
  · exact h _ _ (by simpa [*] using hh)
  · rename_i o ho
    simp only [ho] at hh
    split
    · rename_i hw; simp only [hw, if_true] at hh; exact operR_mono h hh
    · rename_i hw; simp only [hw] at hh; exact h _ _ hh
theorem yieldsIf_wpOpR {ro : Option Nat} {P : Program} {ops : Array Oper} {Q : Exit → Act → World → Prop} {S : World → Prop} {i : Nat} {o : Oper} {v : Value} {a : Act} (hi : ops[i]? = some o) (hy : YieldsIf P ops S o v a)
    {K : Act → World → Prop} {w : World} (hS : S w) (h : K (a.put o.dst v) w) : wpOpR ro P ops Q i K a w := by
  unfold wpOpR
  simp only [hi]
  rcases hy with ⟨hw, hv⟩ | ⟨hw, rfl⟩
  · simp only [hw, if_true, operR, hv w hS, uponR]; exact h
  · simp only [hw, Bool.false_eq_true, if_false]; exact h
theorem wpOpR_putIf {ro : Option Nat} {P : Program} {ops : Array Oper} {Q : Exit → Act → World → Prop} {S : World → Prop} {j : Nat} {oi oj : Oper} {v : Value} (hj : ops[j]? = some oj) (hap : oi.apart ops oj = true)
    (hsi : ∀ cs b, oi.op ≠ .select cs b) (hsj : ∀ cs b, oj.op ≠ .select cs b)
    (hQ : ∀ c a w, Q (.panic c) (a.put oi.dst v) w → Q (.panic c) a w) {K : Act → World → Prop} {a : Act} {w : World}
    (hy : YieldsIf P ops S oi v a) (h : wpOpR ro P ops Q j K (a.put oi.dst v) w) :
    wpOpR ro P ops Q j (fun a' w' => YieldsIf P ops S oi v a' ∧ K (a'.put oi.dst v) w') a w := by
  obtain ⟨h1, h2, h3⟩ := Oper.apart_spec hap
  have keep : ∀ (a : Act), YieldsIf P ops S oi v a → ∀ u, YieldsIf P ops S oi v (a.put oj.dst u) := fun a hy u =>
    hy.of_same (execOp_put oi hsi a oj.dst u h3) (wanted_put oi a oj.dst u h3)
  unfold wpOpR at *
  simp only [hj] at *
  rw [wanted_put oj a oi.dst v h1] at h
  split
  · rename_i hw
    simp only [hw, if_true] at h
    unfold operR at *
    rw [execOp_put oj hsj a oi.dst v h1] at h
    generalize (execOp a.eval oj).run P w = r at *
    cases r with
    | ok n w' =>
      cases n <;> simp only [uponR] at h ⊢
      case value u => exact ⟨keep a hy u, by rw [← Act.put_comm a v u h2]; exact h⟩
      case skip => exact ⟨keep a hy _, by rw [← Act.put_comm a v undef h2]; exact h⟩
      case enter f args =>
        refine Calls.mono h fun e w'' he => ?_
        cases e with
        | returned u => exact ⟨keep a hy u, by rw [← Act.put_comm a v u h2]; exact he⟩
        | panicked c => exact hQ _ _ _ he
        | outgrown => exact he
      case round l f tmps assign body =>
        refine RoundIn.mono h fun e w'' he => ?_
        cases e with
        | returned u => exact ⟨keep a hy u, by rw [← Act.put_comm a v u h2]; exact he⟩
        | panicked c => exact hQ _ _ _ he
        | outgrown => exact he
    | halt x w' =>
      cases x <;> simp only [uponR] at h ⊢
      case panic u => exact hQ _ _ _ h
  · rename_i hw
    simp only [hw] at h
    exact ⟨keep a hy _, by rw [← Act.put_comm a v undef h2]; exact h⟩
/-- No operation that puts a call off. -/
def noDefer (ops : Array Oper) : Bool := ops.all fun o => match o.op with | .defer _ => false | _ => true
theorem noDefer_spec {ops : Array Oper} (h : noDefer ops = true) {i : Nat} {o : Oper} (ho : ops[i]? = some o) (c : Call) : o.op ≠ .defer c := by
  intro e
  have := Array.all_eq_true_iff_forall_mem.1 h o (Array.mem_of_getElem? ho)
  simp [e] at this
theorem operIn_of_R {ro : Option Nat} {P : Program} {Q : Exit → Act → World → Prop} {o : Oper} {a : Act} {w : World} {K : Act → World → Prop} (hd : ∀ c, o.op ≠ .defer c) (h : operR ro P o a w K Q) : o.wpIn (FR ro) 0 P a w K Q := by
  refine ⟨fun _ _ => trivial, ?_⟩
  rw [Oper.semAt_eq _ _ _ hd]
  unfold operR at h
  generalize (execOp a.eval o).run P w = r at *
  cases r with
  | ok n w' =>
    cases n <;> simp only [uponR, Oper.uponIn] at h ⊢
    case value u => exact h
    case skip => exact h
    case enter f args => exact ⟨fun h => by simp [FR, Fence.wide] at h, Calls.toR ro _ h⟩
    case round l f tmps assign body => exact ⟨fun h => by simp [FR, Fence.wide] at h, h⟩
  | halt x w' => cases x <;> simp only [uponR, Oper.uponIn] at h ⊢ <;> exact h
theorem wpOpIn_of_R {ro : Option Nat} {P : Program} {ops : Array Oper} {Q : Exit → Act → World → Prop} {i : Nat} {a : Act} {w : World} {K : Act → World → Prop} (hd : noDefer ops = true) (h : wpOpR ro P ops Q i K a w) : wpOpIn (FR ro) 0 P ops Q i K a w := by
  unfold wpOpR at h
  unfold wpOpIn
  split
  · rename_i ho; simpa [ho] using h
  · rename_i o ho
    simp only [ho] at h
    split
    · rename_i hw; simp only [hw, if_true] at h; exact operIn_of_R (noDefer_spec hd ho) h
    · rename_i hw; simp only [hw] at h; exact ⟨fun _ _ => trivial, h⟩

def wpC (P : Program) (ops : Array Oper) (Q : Exit → Act → World → Prop) (fl : FL) : OT → Act → World → Prop
  | .nil, a, w => Q .normal a w
  | .br t u, a, w => wpC P ops Q fl t a w ∧ wpC P ops Q fl u a w
  | .s i rest, a, w =>
    match ops[i]? with
    | none => False
    | some o =>
      if fl i ≤ 1 then ∃ v, YieldsIf P ops (In fl.d (fl i) w) o v a ∧ wpC P ops Q fl rest (a.put o.dst v) w
      else wpOpR fl.ro P ops Q i (fun a' w' => (fl i ≤ 2 → KeepD fl.d w w') ∧ wpC P ops Q fl rest a' w') a w

theorem wpC_quiet {P : Program} {ops : Array Oper} {Q : Exit → Act → World → Prop} {fl : FL} {i : Nat} {rest : OT} {a : Act} {w : World} {o : Oper} {v : Value}
    (ho : ops[i]? = some o) (hf : fl i ≤ 1) (hy : YieldsIf P ops (In fl.d (fl i) w) o v a) (h : wpC P ops Q fl rest (a.put o.dst v) w) : wpC P ops Q fl (.s i rest) a w := by
  simp only [wpC, ho, if_pos hf]
  exact ⟨v, hy, h⟩

theorem wpOp_of_wpC {P : Program} {ops : Array Oper} {Q : Exit → Act → World → Prop} {fl : FL} {i : Nat} {rest : OT} {a : Act} {w : World}
    (h : wpC P ops Q fl (.s i rest) a w) : wpOpR fl.ro P ops Q i (fun a' w' => (fl i ≤ 2 → KeepD fl.d w w') ∧ wpC P ops Q fl rest a' w') a w := by
  simp only [wpC] at h
  split at h
  · exact h.elim
  · rename_i o ho
    split at h
    · obtain ⟨v, hy, hn⟩ := h
      exact yieldsIf_wpOpR ho hy (Or.inr (KeepD.refl fl.d w)) ⟨fun _ => KeepD.refl fl.d w, hn⟩
    · exact h

theorem wpOps_of_wpC {P : Program} {ops : Array Oper} {Q : Exit → Act → World → Prop} {fl : FL} (hd : noDefer ops = true) : ∀ (L : List Nat) (a : Act) (w : World),
    wpC P ops Q fl (ol L) a w → wpOpsIn (FR fl.ro) 0 P ops Q L a w
  | [], _, _, h => h
  | i :: rest, a, w, h => by
    rw [wpOpsIn_cons]
    exact wpOpIn_of_R hd (wpOpR_mono (fun a' w' h' => wpOps_of_wpC hd rest a' w' h'.2) (wpOp_of_wpC h))

section canon
variable {P : Program} {ops : Array Oper} {Q : Exit → Act → World → Prop} {fl : FL}

def indep (ops : Array Oper) (fl : FL) (q i : Nat) : Bool :=
  match ops[q]?, ops[i]? with
  | some oq, some oi => decide (fl q ≤ 1) && oq.apart ops oi && (decide (fl i ≤ 2) || fl q == 0)
  | _, _ => false

/-- The direct predecessors. -/
def pred (ops : Array Oper) (z x : Nat) : Bool :=
  match ops[z]? with
  | some o => o.after.any fun e => Region.binds .any e && e.on == x
  | none => false

/-- What must come ahead, out of a list. -/
def scan (ops : Array Oper) : List Nat → List Nat → List Nat
  | D, [] => D
  | D, x :: xs => if D.any (fun z => pred ops z x) then scan ops (x :: D) xs else scan ops D xs

def ancOf (ops : Array Oper) (y : Nat) : List Nat := scan ops [y] (List.range y).reverse

/-- May the operations be gone through so? -/
def okT (ops : Array Oper) (fl : FL) : Bool → Array Bool → OT → Bool
  | b, listed, .nil => !b && (Region.ready .any ops listed).isEmpty
  | b, listed, .s i t =>
    (if b then decide (2 ≤ fl i) && (Region.ready .any ops listed).contains i
     else if fl i ≤ 1 then (Region.ready .any ops listed).contains i && (List.range ops.size).all (fun y => listed.getD y true || y == i || (ancOf ops y).contains i || indep ops fl i y)
     else Region.ready .any ops listed == [i]) && okT ops fl false (listed.setIfInBounds i true) t
  | b, listed, .br t u => (b || (Region.ready .any ops listed).all fun i => (t.heads ++ u.heads).contains i) && okT ops fl true listed t && okT ops fl true listed u

/-- Listed ones have their predecessors listed. -/
def Down (ops : Array Oper) (listed : Array Bool) : Prop :=
  ∀ z x, listed.getD z true = true → pred ops z x = true → listed.getD x false = true

theorem scan_listed {listed : Array Bool} (hd : Down ops listed) {y : Nat} (hy : y ∈ Region.ready .any ops listed) :
    ∀ (xs D : List Nat), (∀ z ∈ D, z = y ∨ listed.getD z true = true) → ∀ z ∈ scan ops D xs, z = y ∨ listed.getD z true = true
  | [], D, h, z, hz => h z hz
  | x :: xs, D, h, z, hz => by
    unfold scan at hz
    split at hz
    · rename_i hc
      refine scan_listed hd hy xs (x :: D) (fun u hu => ?_) z hz
      rcases List.mem_cons.1 hu with rfl | hu
      · obtain ⟨t, ht, hp⟩ := List.any_eq_true.1 hc
        have hx : listed.getD u false = true := by
          rcases h t ht with rfl | hl
          · obtain ⟨hun, oj, hoj, hall⟩ := mem_ready.1 hy
            unfold pred at hp
            rw [hoj] at hp
            obtain ⟨e, he, hb⟩ := Array.any_eq_true'.1 hp
            simp only [Bool.and_eq_true, beq_iff_eq] at hb
            have := hall e he hb.1
            rw [hb.2] at this
            exact this
          · exact hd t u hl hp
        right
        rcases Nat.lt_or_ge u listed.size with h' | h'
        · simp [h'] at hx ⊢; exact hx
        · simp [Array.getElem?_eq_none h'] at hx
      · exact h u hu
    · exact scan_listed hd hy xs D h z hz

theorem getD_set_true' {listed : Array Bool} {i j : Nat} (h : listed.getD j true = true) : (listed.setIfInBounds i true).getD j true = true := by
  by_cases e : i = j
  · subst e
    rcases Nat.lt_or_ge i listed.size with h' | h'
    · simp [h']
    · simp [h']
  · rw [getD_set_ne true e]; exact h

theorem Down.set {listed : Array Bool} (hd : Down ops listed) {i : Nat} (hi : i ∈ Region.ready .any ops listed) : Down ops (listed.setIfInBounds i true) := by
  intro z x hz hp
  have key : listed.getD x false = true := by
    by_cases e : i = z
    · subst e
      obtain ⟨hun, oj, hoj, hall⟩ := mem_ready.1 hi
      unfold pred at hp
      rw [hoj] at hp
      obtain ⟨e, he, hb⟩ := Array.any_eq_true'.1 hp
      simp only [Bool.and_eq_true, beq_iff_eq] at hb
      have := hall e he hb.1
      rw [hb.2] at this
      exact this
    · rw [getD_set_ne true e] at hz
      exact hd z x hz hp
  exact getD_set_true key

theorem anc_listed {listed : Array Bool} (hd : Down ops listed) {y x : Nat} (hy : y ∈ Region.ready .any ops listed) (hx : x ∈ ancOf ops y) : x = y ∨ listed.getD x true = true :=
  scan_listed hd hy _ [y] (by simp) x hx

theorem not_listed {listed : Array Bool} {i : Nat} (hi : i ∈ Region.ready .any ops listed) : listed.getD i true = false := (mem_ready.1 hi).1

theorem pullB {i : Nat} : ∀ (t : OT) (listed : Array Bool) (a : Act) (w : World), okT ops fl true listed t = true → i ∈ t.heads → wpC P ops Q fl t a w →
    ∃ t', okT ops fl false (listed.setIfInBounds i true) t' = true ∧ wpOpR fl.ro P ops Q i (fun a' w' => (fl i ≤ 2 → KeepD fl.d w w') ∧ wpC P ops Q fl t' a' w') a w
  | .nil, listed, a, w, _, hi, _ => by cases hi
  | .s x t, listed, a, w, ho, hi, h => by
    simp only [OT.heads, List.mem_singleton] at hi
    subst hi
    simp only [okT, if_true, Bool.and_eq_true] at ho
    exact ⟨t, ho.2, wpOp_of_wpC h⟩
  | .br t u, listed, a, w, ho, hi, h => by
    simp only [okT, Bool.true_or, Bool.true_and, Bool.and_eq_true] at ho
    simp only [OT.heads, List.mem_append] at hi
    simp only [wpC] at h
    rcases hi with hi | hi
    · exact pullB t listed a w ho.1 hi h.1
    · exact pullB u listed a w ho.2 hi h.2

theorem pullT (hs : Region.noSelect ops = true) (hQ : ∀ c d (v : Value) a w, Q (.panic c) (Act.put a d v) w → Q (.panic c) a w) {i : Nat} :
    ∀ (t : OT) (listed : Array Bool) (a : Act) (w : World), okT ops fl false listed t = true → Down ops listed → i ∈ Region.ready .any ops listed → wpC P ops Q fl t a w →
    ∃ t', okT ops fl false (listed.setIfInBounds i true) t' = true ∧ wpOpR fl.ro P ops Q i (fun a' w' => (fl i ≤ 2 → KeepD fl.d w w') ∧ wpC P ops Q fl t' a' w') a w
  | .nil, listed, a, w, ho, _, hi, _ => by
    simp only [okT, Bool.not_false, Bool.true_and, List.isEmpty_iff] at ho
    rw [ho] at hi
    cases hi
  | .br t u, listed, a, w, ho, _, hi, h => by
    simp only [okT, Bool.false_or, Bool.and_eq_true, List.all_eq_true] at ho
    have hh := ho.1.1 i hi
    simp only [wpC] at h
    have hm : i ∈ t.heads ++ u.heads := by simpa using hh
    rcases List.mem_append.1 hm with hm | hm
    · exact pullB t listed a w ho.1.2 hm h.1
    · exact pullB u listed a w ho.2 hm h.2
  | .s x t, listed, a, w, ho, hd, hi, h => by
    simp only [okT, Bool.false_eq_true, if_false, Bool.and_eq_true] at ho
    obtain ⟨h1, h2⟩ := ho
    by_cases hf : fl x ≤ 1
    · rw [if_pos hf] at h1
      simp only [Bool.and_eq_true, List.all_eq_true, List.mem_range, Bool.or_eq_true, beq_iff_eq] at h1
      obtain ⟨hx, hy⟩ := h1
      have hx' : x ∈ Region.ready .any ops listed := by simpa using hx
      by_cases e : i = x
      · subst e
        exact ⟨t, h2, wpOp_of_wpC h⟩
      · have hilt : i < ops.size := by
          obtain ⟨_, o, ho, _⟩ := mem_ready.1 hi
          exact (Array.getElem?_eq_some_iff.1 ho).1
        have hind : indep ops fl x i = true := by
          rcases hy i hilt with ((h3 | h3) | h3) | h3
          · rw [not_listed hi] at h3; cases h3
          · exact absurd h3 e
          · rcases anc_listed hd hi (by simpa using h3) with h4 | h4
            · exact absurd h4.symm e
            · rw [not_listed hx'] at h4; cases h4
          · exact h3
        unfold indep at hind
        split at hind
        · rename_i oq oi hoq hoi
          simp only [Bool.and_eq_true, decide_eq_true_eq, Bool.or_eq_true, beq_iff_eq] at hind
          obtain ⟨⟨_, hap⟩, hk⟩ := hind
          simp only [wpC, hoq, if_pos hf] at h
          obtain ⟨v, hyv, hn⟩ := h
          obtain ⟨t', ht', ih⟩ := pullT hs hQ t (listed.setIfInBounds x true) _ w h2 (hd.set hx') (ready_mono hi e) hn
          have h5 := wpOpR_putIf hoi hap (Region.noSelect_spec hs x oq · · hoq) (Region.noSelect_spec hs i oi · · hoi) (fun c a w => hQ c oq.dst v a w) hyv ih
          refine ⟨.s x t', ?_, wpOpR_mono (fun a' w' h3 => ⟨h3.2.1, ?_⟩) h5⟩
          · simp only [okT, Bool.false_eq_true, if_false, if_pos hf, Bool.and_eq_true, List.all_eq_true, List.mem_range, Bool.or_eq_true, beq_iff_eq]
            refine ⟨⟨by simpa using ready_mono hx' (Ne.symm e), fun y hyy => ?_⟩, ?_⟩
            · rcases hy y hyy with ((h6 | h6) | h6) | h6
              · exact Or.inl (Or.inl (Or.inl (getD_set_true' h6)))
              · exact Or.inl (Or.inl (Or.inr h6))
              · exact Or.inl (Or.inr h6)
              · exact Or.inr h6
            · rw [Array.setIfInBounds_comm _ _ e]; exact ht'
          · simp only [wpC, hoq, if_pos hf]
            refine ⟨v, ?_, h3.2.2⟩
            rcases h3.1 with ⟨hw, hv⟩ | h4
            · refine Or.inl ⟨hw, fun w'' hw'' => hv w'' ?_⟩
              rcases hw'' with h0 | hkk
              · exact Or.inl h0
              · rcases hk with hk | hk
                · exact Or.inr ((h3.2.1 hk).trans hkk)
                · exact Or.inl hk
            · exact Or.inr h4
        · cases hind
    · rw [if_neg hf] at h1
      have h3 : Region.ready .any ops listed = [x] := by simpa using h1
      rw [h3] at hi
      simp only [List.mem_singleton] at hi
      subst hi
      exact ⟨t, h2, wpOp_of_wpC h⟩

theorem done_of_okT {t : OT} {listed : Array Bool} {a : Act} {w : World} (hr : Region.ready .any ops listed = []) : okT ops fl false listed t = true → wpC P ops Q fl t a w → Q .normal a w := by
  have hB : ∀ t : OT, okT ops fl true listed t = true → False := by
    intro t
    induction t with
    | nil => intro h; simp [okT] at h
    | s i t _ => intro h; simp [okT, hr] at h
    | br t u ih1 _ => intro h; simp only [okT, Bool.true_or, Bool.true_and, Bool.and_eq_true] at h; exact ih1 h.1
  cases t with
  | nil => intro _ h; exact h
  | s i t =>
    intro h
    simp only [okT, hr, Bool.false_eq_true, if_false] at h
    split at h <;> simp at h
  | br t u =>
    intro h
    simp only [okT, Bool.and_eq_true] at h
    exact (hB t h.1.2).elim

theorem wpAny_of_wpC (hd0 : noDefer ops = true) (hs : Region.noSelect ops = true) (hQ : ∀ c d (v : Value) a w, Q (.panic c) (Act.put a d v) w → Q (.panic c) a w) :
    ∀ (fuel : Nat) (listed : Array Bool) (t : OT) (a : Act) (w : World), Down ops listed → (List.range ops.size).countP (fun i => !listed.getD i true) ≤ fuel →
      okT ops fl false listed t = true → wpC P ops Q fl t a w → wpAnyIn (FR fl.ro) 0 P .any ops Q fuel listed a w := by
  intro fuel
  induction fuel with
  | zero =>
    intro listed t a w hd hc ho h
    have hr : Region.ready .any ops listed = [] := by
      rcases hr : Region.ready .any ops listed with _ | ⟨x, r⟩
      · rfl
      · exfalso
        have hx : x ∈ Region.ready .any ops listed := by rw [hr]; simp
        obtain ⟨hun, o, hox, _⟩ := mem_ready.1 hx
        have := List.countP_pos_iff (p := fun i => !listed.getD i true).2 ⟨x, List.mem_range.2 (Array.getElem?_eq_some_iff.1 hox).1, by rw [hun]; rfl⟩
        omega
    exact ⟨hr, done_of_okT hr ho h⟩
  | succ fuel ih =>
    intro listed t a w hd hc ho h
    refine ⟨fun hr => done_of_okT hr ho h, fun i hi => ?_⟩
    obtain ⟨t', ho', hp⟩ := pullT hs hQ t listed a w ho hd hi h
    refine wpOpIn_of_R hd0 (wpOpR_mono (fun a' w' h3 => ih _ t' a' w' (hd.set hi) ?_ ho' h3.2) hp)
    obtain ⟨hun, o, hox, _⟩ := mem_ready.1 hi
    have hilt := (Array.getElem?_eq_some_iff.1 hox).1
    have hlt : i < listed.size := by
      rcases Nat.lt_or_ge i listed.size with h' | h'
      · exact h'
      · simp [Array.getElem?_eq_none h'] at hun
    have key : ∀ n, i < n → (List.range n).countP (fun j => !(listed.setIfInBounds i true).getD j true) + 1 = (List.range n).countP (fun j => !listed.getD j true) := by
      have same : ∀ n, n ≤ i → (List.range n).countP (fun j => !(listed.setIfInBounds i true).getD j true) = (List.range n).countP (fun j => !listed.getD j true) := by
        intro n hn
        apply List.countP_congr
        intro j hj
        have := List.mem_range.1 hj
        rw [getD_set_ne true (by omega)]
      intro n
      induction n with
      | zero => intro h; omega
      | succ n ihn =>
        intro hn
        rw [List.range_succ, List.countP_append, List.countP_append]
        by_cases e : i = n
        · subst e
          rw [same i (Nat.le_refl _)]
          simp only [List.countP_singleton]
          rw [hun]
          simp [hlt]
        · have := ihn (by omega)
          simp only [List.countP_singleton]
          rw [getD_set_ne true e]
          omega
    have := key ops.size hilt
    omega

/-- A region that draws its order, in one order (or in some). -/
theorem wp_region_ord {id : Nat} {t : OT} {a : Act} {w : World} (hm : P.follows .mixedOrders = true) (hok : (noDefer ops && Region.noSelect ops && okT ops fl false (Array.replicate ops.size false) t) = true)
    (hQ : ∀ c d (v : Value) a w, Q (.panic c) (Act.put a d v) w → Q (.panic c) a w)
    (h : wpC P ops Q fl t a { w with drawn := w.drawn + 1 }) : Code.wpR fl.ro P (Code.region id ops true) Q a w := by
  simp only [Bool.and_eq_true] at hok
  refine wpIn_region_any hm (wpAny_of_wpC hok.1.1 hok.1.2 hQ ops.size _ t a _ ?_ ?_ hok.2 h)
  · intro z x hz hp
    exfalso
    unfold pred at hp
    split at hp
    · rename_i o ho
      have := (Array.getElem?_eq_some_iff.1 ho).1
      simp [this] at hz
    · cases hp
  · exact Nat.le_trans List.countP_le_length (by simp)

end canon
end Go.Px
end
section
/-
  The rules of this seat's walks: one for each kind of operation and of code, over what is known of temporaries and of memory. No condition.
-/
set_option linter.all false
namespace Go.Px
open Go.RowKit

/-! ### Memory -/

/-- A row of cells. -/
abbrev row (cs : List Value) (T : TypeId) : Obj := .cells cs.toArray T (0, 0)

/-- What is known of a piece of memory: a block; a slice of the call's own, with its room; or whatever stands as long as its blocks stay. -/
inductive Ent where
  | bk (b : Nat) (o : Obj)
  | sl (A : Option Addr) (n c : Nat) (xs : List Value) (e : TypeId) (size : Nat)
  | pr (φ : World → Prop)
abbrev Mem := List Ent

/-- The piece stands in w, on the blocks G. -/
def Ent.on (w : World) (G : Nat → Prop) : Ent → Prop
  | .bk b o => w.heap[b]? = some o ∧ G b
  | .sl A n c xs e s => w.ownsRow 0 e s (.slice A n c) n xs ∧ ∀ a, A = some a → G a.block
  | .pr φ => ∀ w', (∀ k, G k → w'.heap[k]? = w.heap[k]?) → φ w'

theorem Ent.on.mono {w : World} {G G' : Nat → Prop} {e : Ent} (h : e.on w G) (hG : ∀ k, G k → G' k) : e.on w G' := by
  cases e with
  | bk b o => exact ⟨h.1, hG _ h.2⟩
  | sl A n c xs e s => exact ⟨h.1, fun a ha => hG _ (h.2 a ha)⟩
  | pr φ => exact fun w' hw => h w' fun k hk => hw k (hG k hk)

theorem ownsRow_agree {w w' : World} {e : TypeId} {s : Nat} {v : Value} {n : Nat} {xs : List Value} (h : w.ownsRow 0 e s v n xs) (hw : ∀ k, v.ownBlock = some k → w'.heap[k]? = w.heap[k]?) : w'.ownsRow 0 e s v n xs := by
  refine ⟨h.1, ?_⟩
  rcases h.2 with h2 | ⟨g, cap, cur, rfl, h3, h4, h5⟩
  · exact .inl h2
  · exact .inr ⟨g, cap, cur, rfl, h3, by rw [hw g rfl]; exact h4, h5⟩

theorem Ent.on.agree {w w' : World} {G : Nat → Prop} {e : Ent} (h : e.on w G) (hw : ∀ k, G k → w'.heap[k]? = w.heap[k]?) : e.on w' G := by
  cases e with
  | bk b o => exact ⟨by rw [hw _ h.2]; exact h.1, h.2⟩
  | sl A n c xs e s =>
    refine ⟨ownsRow_agree h.1 fun k hk => ?_, h.2⟩
    cases A with
    | none => simp [Value.ownBlock] at hk
    | some a =>
      simp only [Value.ownBlock, Option.some.injEq] at hk
      subst hk
      exact hw _ (h.2 a rfl)
  | pr φ => exact fun w'' hw' => h w'' fun k hk => (hw' k hk).trans (hw k hk)

/-- The pieces stand apart, on the blocks F. -/
def Sep (w : World) : Mem → (Nat → Prop) → Prop
  | [], _ => True
  | e :: m, F => ∃ G : Nat → Prop, e.on w G ∧ (∀ k, G k → F k) ∧ Sep w m (fun k => F k ∧ ¬ G k)

theorem Sep.mono {w : World} : ∀ {m : Mem} {F F' : Nat → Prop}, Sep w m F → (∀ k, F k → F' k) → Sep w m F'
  | [], _, _, _, _ => trivial
  | _ :: _, _, _, ⟨G, h1, h2, h3⟩, h => ⟨G, h1, fun k hk => h k (h2 k hk), Sep.mono h3 fun k hk => ⟨h k hk.1, hk.2⟩⟩

theorem Sep.agree {w w' : World} : ∀ {m : Mem} {F : Nat → Prop}, Sep w m F → (∀ k, F k → w'.heap[k]? = w.heap[k]?) → Sep w' m F
  | [], _, _, _ => trivial
  | _ :: _, _, ⟨G, h1, h2, h3⟩, h => ⟨G, h1.agree fun k hk => h k (h2 k hk), h2, Sep.agree h3 fun k hk => h k hk.1⟩

theorem Sep.app {w : World} : ∀ {m m' : Mem} {F F' F'' : Nat → Prop}, Sep w m F → Sep w m' F' → (∀ k, F k → ¬ F' k) → (∀ k, F k → F'' k) → (∀ k, F' k → F'' k) → Sep w (m ++ m') F''
  | [], _, _, _, _, _, h', _, _, h2 => h'.mono h2
  | _ :: _, _, _, _, _, ⟨G, g1, g2, g3⟩, h', hd, h1, h2 => ⟨G, g1, fun k hk => h1 k (g2 k hk), Sep.app g3 h' (fun k hk => hd k hk.1) (fun k hk => ⟨h1 k hk.1, hk.2⟩) (fun k hk => ⟨h2 k hk, fun hg => hd k (g2 k hg) hk⟩)⟩

theorem Sep.sub {w : World} {m m' : Mem} (hs : m'.Sublist m) : ∀ {F : Nat → Prop}, Sep w m F → Sep w m' F := by
  induction hs with
  | slnil => exact fun h => h
  | cons _ _ ih => exact fun ⟨G, _, _, h3⟩ => ih (h3.mono fun k hk => hk.1)
  | cons_cons _ _ ih => exact fun ⟨G, h1, h2, h3⟩ => ⟨G, h1, h2, ih h3⟩

theorem Sep.perm {w : World} {m m' : Mem} (hs : m.Perm m') : ∀ {F : Nat → Prop}, Sep w m F → Sep w m' F := by
  induction hs with
  | nil => exact fun h => h
  | cons _ _ ih => exact fun ⟨G, h1, h2, h3⟩ => ⟨G, h1, h2, ih h3⟩
  | swap x y l =>
    rintro F ⟨G, h1, h2, G', h3, h4, h5⟩
    exact ⟨G', h3, fun k hk => (h4 k hk).1, G, h1, fun k hk => ⟨h2 k hk, fun hg => (h4 k hg).2 hk⟩, h5.mono fun k hk => ⟨⟨hk.1.1, hk.2⟩, hk.1.2⟩⟩
  | trans _ _ ih1 ih2 => exact fun h => ih2 (ih1 h)

/-- One piece taken out, and another put in its stead. -/
theorem Sep.at {w : World} {e : Ent} : ∀ {m : Mem} {k : Nat} {F : Nat → Prop}, Sep w m F → m[k]? = some e → ∃ G : Nat → Prop, e.on w G ∧ (∀ j, G j → F j) ∧
    ∀ (w' : World) (e' : Ent) (G' : Nat → Prop), (∀ j, F j → ¬ G j → w'.heap[j]? = w.heap[j]?) → e'.on w' G' → (∀ j, G' j → G j ∨ ¬ F j) → Sep w' (m.set k e') (fun j => (F j ∧ ¬ G j) ∨ G' j)
  | [], k, _, _, hk => by simp at hk
  | e0 :: m, 0, F, ⟨G, h1, h2, h3⟩, hk => by
    simp only [List.getElem?_cons_zero, Option.some.injEq] at hk
    subst hk
    refine ⟨G, h1, h2, fun w' e' G' ha he hG => ⟨G', he, fun k hk => .inr hk, ?_⟩⟩
    refine (Sep.agree h3 fun k hk => ha k hk.1 hk.2).mono fun k hk => ⟨.inl hk, fun hg => ?_⟩
    rcases hG k hg with h | h
    · exact hk.2 h
    · exact h hk.1
  | e0 :: m, k + 1, F, ⟨H, h1, h2, h3⟩, hk => by
    obtain ⟨G, g1, g2, g3⟩ := Sep.at h3 (k := k) (by simpa using hk)
    refine ⟨G, g1, fun j hj => (g2 j hj).1, fun w' e' G' ha he hG => ⟨H, h1.agree fun j hj => ha j (h2 j hj) fun hg => (g2 j hg).2 hj, fun j hj => .inl ⟨h2 j hj, fun hg => (g2 j hg).2 hj⟩, ?_⟩⟩
    refine (g3 w' e' G' (fun j hj hg => ha j hj.1 hg) he fun j hj => ?_).mono fun j hj => ?_
    · rcases hG j hj with h | h
      · exact .inl h
      · exact .inr fun hh => h hh.1
    · rcases hj with hj | hj
      · exact ⟨.inl ⟨hj.1.1, hj.2⟩, hj.1.2⟩
      · refine ⟨.inr hj, fun hh => ?_⟩
        rcases hG j hj with h | h
        · exact (g2 j h).2 hh
        · exact h (h2 j hh)

/-- From w0 on only the blocks M were changed, and what the list says stands there. -/
structure Hp (M : Nat → Prop) (w0 w : World) (m : Mem) : Prop where
  os : w.os = w0.os
  tape : w.tape = w0.tape
  output : w.output = w0.output
  size : w0.heap.size ≤ w.heap.size
  old : ∀ k, k < w0.heap.size → ¬ M k → w.heap[k]? = w0.heap[k]?
  sep : Sep w m (fun k => k < w.heap.size ∧ (w0.heap.size ≤ k ∨ M k))

theorem lt_of_some {w : World} {b : Nat} {o : Obj} (h : w.heap[b]? = some o) : b < w.heap.size := (Array.getElem?_eq_some_iff.1 h).1

theorem Hp.start (w : World) : Hp no w w [] := ⟨rfl, rfl, rfl, Nat.le_refl _, fun _ _ _ => rfl, trivial⟩

theorem Hp.below {w0 w : World} {m : Mem} (H : Hp no w0 w m) : Below w0.heap.size w0 w :=
  ⟨H.os, H.tape, H.output, H.size, fun k hk => H.old k hk (fun h => h)⟩

theorem Hp.keep {w0 w : World} {m : Mem} (H : Hp no w0 w m) : Keep w0 w := ⟨H.size, fun k hk => H.old k hk (fun h => h)⟩

theorem Hp.sub {M : Nat → Prop} {w0 w : World} {m m' : Mem} (H : Hp M w0 w m) (h : m'.Sublist m) : Hp M w0 w m' :=
  ⟨H.os, H.tape, H.output, H.size, H.old, H.sep.sub h⟩

theorem Hp.perm {M : Nat → Prop} {w0 w : World} {m m' : Mem} (H : Hp M w0 w m) (h : m.Perm m') : Hp M w0 w m' :=
  ⟨H.os, H.tape, H.output, H.size, H.old, H.sep.perm h⟩

theorem Hp.nil {M : Nat → Prop} {w0 w : World} {m : Mem} (H : Hp M w0 w m) : Hp M w0 w [] := H.sub (List.nil_sublist _)

theorem Hp.one {M : Nat → Prop} {w0 w : World} {m : Mem} (H : Hp M w0 w m) (k : Nat) {x : Ent} (h : m[k]? = some x) : Hp M w0 w [x] := by
  refine H.sub ?_
  obtain ⟨l1, l2, rfl⟩ := List.append_of_mem (List.mem_of_getElem? h)
  exact (List.singleton_sublist.2 (by simp))

theorem Sep.fam {w : World} : ∀ {m : Mem} {F : Nat → Prop}, Sep w m F → ∃ Gs : Nat → Nat → Prop, (∀ (i : Nat) (e : Ent), m[i]? = some e → e.on w (Gs i)) ∧ (∀ i k, Gs i k → F k) ∧ ∀ i j k, Gs i k → Gs j k → i = j
  | [], _, _ => ⟨fun _ _ => False, by simp, fun _ _ h => h.elim, fun _ _ _ h => h.elim⟩
  | e :: m, F, ⟨G, h1, h2, h3⟩ => by
    obtain ⟨Gs, g1, g2, g3⟩ := h3.fam
    refine ⟨fun i => match i with | 0 => G | i + 1 => Gs i, ?_, ?_, ?_⟩
    · rintro (_ | i) x hx
      · simp only [List.getElem?_cons_zero, Option.some.injEq] at hx; subst hx; exact h1
      · exact g1 i x (by simpa using hx)
    · rintro (_ | i) k hk
      · exact h2 k hk
      · exact (g2 i k hk).1
    · rintro (_ | i) (_ | j) k hi hj
      · rfl
      · exact absurd hi (g2 j k hj).2
      · exact absurd hj (g2 i k hi).2
      · rw [g3 i j k hi hj]

theorem Sep.ofFam {w : World} {m : Mem} {Gs : Nat → Nat → Prop} (h1 : ∀ (i : Nat) (e : Ent), m[i]? = some e → e.on w (Gs i)) (h3 : ∀ i j k, Gs i k → Gs j k → i = j) :
    ∀ {ks : List Nat} {m' : Mem} {F : Nat → Prop}, ks.Nodup → ks.map (m[·]?) = m'.map some → (∀ i ∈ ks, ∀ k, Gs i k → F k) → Sep w m' F
  | [], [], _, _, _, _ => trivial
  | [], _ :: _, _, _, h, _ => by simp at h
  | _ :: _, [], _, _, h, _ => by simp at h
  | i :: ks, e :: m', F, hn, hm, hF => by
    simp only [List.map_cons, List.cons.injEq] at hm
    simp only [List.nodup_cons] at hn
    refine ⟨Gs i, h1 i e hm.1, hF i (by simp), Sep.ofFam h1 h3 hn.2 hm.2 fun j hj k hk => ⟨hF j (by simp [hj]) k hk, fun hi => ?_⟩⟩
    exact hn.1 (h3 j i k hk hi ▸ hj)

/-- A world that differs in no block. -/
theorem Hp.same {M : Nat → Prop} {w0 w w' : World} {m : Mem} (H : Hp M w0 w m) (h : w'.heap = w.heap) (h1 : w'.os = w.os) (h2 : w'.tape = w.tape) (h3 : w'.output = w.output) : Hp M w0 w' m :=
  ⟨h1.trans H.os, h2.trans H.tape, h3.trans H.output, by rw [h]; exact H.size, fun k hk hm => by rw [h]; exact H.old k hk hm, by rw [h]; exact H.sep.agree fun k _ => by rw [h]⟩

/-- More pieces, on new blocks. -/
theorem Hp.add {M : Nat → Prop} {w0 w w' : World} {m mc : Mem} (H : Hp M w0 w m) (h1 : w'.os = w.os) (h2 : w'.tape = w.tape) (h3 : w'.output = w.output) (hs : w.heap.size ≤ w'.heap.size)
    (hk : ∀ k, k < w.heap.size → w'.heap[k]? = w.heap[k]?) (h : Sep w' mc (fun k => w.heap.size ≤ k ∧ k < w'.heap.size)) : Hp M w0 w' (mc ++ m) := by
  have := H.size
  exact ⟨h1.trans H.os, h2.trans H.tape, h3.trans H.output, by omega, fun k hk' hm => by rw [hk k (by omega)]; exact H.old k hk' hm,
    h.app (H.sep.agree fun k hk' => hk k hk'.1) (fun k hk' hh => by omega) (fun k hk' => ⟨hk'.2, .inl (by omega)⟩) (fun k hk' => ⟨by omega, hk'.2⟩)⟩

/-- A new block. -/
theorem Hp.new {M : Nat → Prop} {w0 w : World} {m : Mem} (H : Hp M w0 w m) (o : Obj) : Hp M w0 { w with heap := w.heap.push o } (.bk w.heap.size o :: m) :=
  H.add (mc := [.bk w.heap.size o]) rfl rfl rfl (by simp) (fun k hk => by simp only [Array.getElem?_push]; rw [if_neg (by omega)])
    ⟨fun k => k = w.heap.size, ⟨by simp, rfl⟩, fun k hk => by subst hk; simp, trivial⟩

/-- What needs no block. -/
theorem Hp.add0 {M : Nat → Prop} {w0 w : World} {m : Mem} (H : Hp M w0 w m) {e : Ent} (h : e.on w no) : Hp M w0 w (e :: m) :=
  ⟨H.os, H.tape, H.output, H.size, H.old, no, h, fun _ hk => hk.elim, H.sep.mono fun _ hk => ⟨hk, fun h => h⟩⟩

/-- A slice that is nil. -/
theorem Hp.nils {M : Nat → Prop} {w0 w : World} {m : Mem} (H : Hp M w0 w m) (e : TypeId) (s : Nat) : Hp M w0 w (.sl none 0 0 [] e s :: m) :=
  H.add0 ⟨World.ownsRow_nil w 0 e s, fun a ha => by cases ha⟩

/-- One piece changes. -/
theorem Hp.upd {M : Nat → Prop} {w0 w : World} {m : Mem} (H : Hp M w0 w m) {k : Nat} {e : Ent} (hk : m[k]? = some e) : ∃ G : Nat → Prop, e.on w G ∧ (∀ j, G j → j < w.heap.size) ∧
    ∀ (w' : World) (e' : Ent) (G' : Nat → Prop), w'.os = w.os → w'.tape = w.tape → w'.output = w.output → w.heap.size ≤ w'.heap.size → (∀ j, j < w.heap.size → ¬ G j → w'.heap[j]? = w.heap[j]?) → e'.on w' G' →
      (∀ j, G' j → G j ∨ (w.heap.size ≤ j ∧ j < w'.heap.size)) → Hp M w0 w' (m.set k e') := by
  obtain ⟨G, g1, g2, g3⟩ := H.sep.at hk
  have hsz := H.size
  refine ⟨G, g1, fun j hj => (g2 j hj).1, fun w' e' G' h1 h2 h3 h4 h5 h6 h7 => ⟨h1.trans H.os, h2.trans H.tape, h3.trans H.output, by omega, fun j hj hM => ?_, ?_⟩⟩
  · rw [h5 j (by omega) fun hg => (g2 j hg).2.elim (fun h => by omega) hM]
    exact H.old j hj hM
  · refine (g3 w' e' G' (fun j hj hg => h5 j hj.1 hg) h6 fun j hj => ?_).mono fun j hj => ?_
    · rcases h7 j hj with h | h
      · exact .inl h
      · exact .inr fun hh => by omega
    · rcases hj with hj | hj
      · exact ⟨by omega, hj.1.2⟩
      · rcases h7 j hj with h | h
        · have := g2 j h; exact ⟨by omega, this.2⟩
        · exact ⟨h.2, .inl (by omega)⟩

/-- A piece is told otherwise. -/
theorem Hp.conv {M : Nat → Prop} {w0 w : World} {m : Mem} (H : Hp M w0 w m) {k : Nat} {e : Ent} (hk : m[k]? = some e) (e' : Ent) (h : ∀ G, e.on w G → e'.on w G) : Hp M w0 w (m.set k e') := by
  obtain ⟨G, g1, g2, g3⟩ := H.upd hk
  exact g3 w e' G rfl rfl rfl (Nat.le_refl _) (fun _ _ _ => rfl) (h G g1) fun j hj => .inl hj

/-- A block is given other contents. -/
theorem Hp.put {M : Nat → Prop} {w0 w w' : World} {m : Mem} (H : Hp M w0 w m) {k : Nat} {b : Nat} {o o' : Obj} (hk : m[k]? = some (.bk b o))
    (h1 : w'.os = w.os) (h2 : w'.tape = w.tape) (h3 : w'.output = w.output) (hs : w'.heap.size = w.heap.size)
    (hb : w'.heap[b]? = some o') (hn : ∀ j, j ≠ b → w'.heap[j]? = w.heap[j]?) : Hp M w0 w' (m.set k (.bk b o')) := by
  obtain ⟨G, g1, g2, g3⟩ := H.upd hk
  exact g3 w' (.bk b o') G h1 h2 h3 (by omega) (fun j _ hj => hn j fun e => hj (e ▸ g1.2)) ⟨hb, g1.2⟩ fun j hj => .inl hj

theorem Hp.ent {M : Nat → Prop} {w0 w : World} {m : Mem} (H : Hp M w0 w m) {k : Nat} {b : Nat} {o : Obj} (hk : m[k]? = some (.bk b o)) : w.heap[b]? = some o := by
  obtain ⟨G, g1, -, -⟩ := H.upd hk
  exact g1.1

/-- Behind a call that changed none of the blocks that were there. -/
theorem Hp.call {M : Nat → Prop} {w0 w w' : World} {m mc : Mem} (H : Hp M w0 w m) (h : Hp no w w' mc) : Hp M w0 w' (mc ++ m) :=
  H.add h.os h.tape h.output h.size (fun k hk => h.old k hk fun h => h) (h.sep.mono fun k hk => ⟨hk.2.elim (fun h => h) (fun h => h.elim), hk.1⟩)

/-! ### What a slice reads as -/

/-- The cells from an address on (nothing is asked of the address where there are no cells). -/
def Rd (w : World) (A : Option Addr) (cs : List Value) : Prop :=
  cs = [] ∨ ∃ b off blk T fr, A = some ⟨b, off, none⟩ ∧ w.heap[b]? = some (.cells blk T fr) ∧ ∀ j, j < cs.length → blk[off + j]? = cs[j]?

theorem Rd.nil (w : World) (A : Option Addr) : Rd w A [] := .inl rfl

theorem Rd.keep {w w' : World} {A : Option Addr} {cs : List Value} (h : Rd w A cs) (k : Keep w w') : Rd w' A cs := by
  rcases h with h | ⟨b, off, blk, T, fr, hA, hb, hc⟩
  · exact Or.inl h
  · exact Or.inr ⟨b, off, blk, T, fr, hA, (k.2 b (lt_of_some hb)).trans hb, hc⟩

theorem Rd.agree {w w' : World} {A : Option Addr} {cs : List Value} (h : Rd w A cs) (k : ∀ a, A = some a → w'.heap[a.block]? = w.heap[a.block]?) : Rd w' A cs := by
  rcases h with h | ⟨b, off, blk, T, fr, hA, hb, hc⟩
  · exact Or.inl h
  · exact Or.inr ⟨b, off, blk, T, fr, hA, (k _ hA).trans hb, hc⟩

theorem Rd.of_ent {M : Nat → Prop} {w0 w : World} {m : Mem} (H : Hp M w0 w m) {k b off n T : Nat} {cs cs' : List Value} (hm : m[k]? = some (.bk b (row cs T)))
    (hc : (cs.drop off).take n = cs') : Rd w (some ⟨b, off, none⟩) cs' := by
  refine Or.inr ⟨b, off, cs.toArray, T, (0, 0), rfl, H.ent hm, fun j hj => ?_⟩
  subst hc
  have hj' : j < n := by simp at hj; omega
  rw [List.getElem?_take, if_pos hj']
  simp

theorem Rd.own {w : World} {A : Option Addr} {n c : Nat} {xs : List Value} {e : TypeId} {s : Nat} (h : w.ownsRow 0 e s (.slice A n c) n xs) : Rd w A xs := by
  obtain ⟨h1, h2⟩ := h
  rcases h2 with ⟨h2, rfl⟩ | ⟨g, cap, cur, h3, h4, h5, h6, h7, h8, h9⟩
  · left; exact List.length_eq_zero_iff.1 (by simpa using h1)
  · right
    simp only [Value.slice.injEq] at h3
    refine ⟨g, 0, cur, e, (0, 0), h3.1, h5, fun j hj => ?_⟩
    rw [← h9, List.getElem?_take, if_pos (by omega)]
    simp

theorem Rd.sl {M : Nat → Prop} {w0 w : World} {m : Mem} (H : Hp M w0 w m) (k : Nat) {A : Option Addr} {n c : Nat} {xs : List Value} {e : TypeId} {s : Nat} (hm : m[k]? = some (.sl A n c xs e s)) : Rd w A xs := by
  obtain ⟨G, g1, -, -⟩ := H.upd hm
  exact Rd.own g1.1

theorem Hp.pr {M : Nat → Prop} {w0 w : World} {m : Mem} (H : Hp M w0 w m) (k : Nat) {φ : World → Prop} (hm : m[k]? = some (.pr φ)) : φ w := by
  obtain ⟨G, g1, -, -⟩ := H.upd hm
  exact g1 w fun _ _ => rfl

/-- A block that a slice of all its cells leads to. -/
theorem Hp.toSl {M : Nat → Prop} {w0 w : World} {m : Mem} (H : Hp M w0 w m) (k : Nat) {b : Nat} {cs : List Value} {e : TypeId} (n s : Nat) (hm : m[k]? = some (.bk b (row cs e))) (hn : cs.length = n * s) (hm' : n ≤ maxLen) :
    Hp M w0 w (m.set k (.sl (some ⟨b, 0, none⟩) n n cs e s)) :=
  H.conv hm _ fun G hG => ⟨⟨hn, .inr ⟨b, n, cs.toArray, rfl, Nat.zero_le _, hG.1, Nat.le_refl _, hm', by simpa using hn, by simp [← hn]⟩⟩, fun a ha => by cases ha; exact hG.2⟩

/-- A slice of the call's own that is not empty: its block. -/
theorem Hp.slAt {M : Nat → Prop} {w0 w : World} {m : Mem} (H : Hp M w0 w m) (k : Nat) {A : Option Addr} {n c : Nat} {xs : List Value} {e : TypeId} {s : Nat} (hm : m[k]? = some (.sl A n c xs e s)) (h0 : 0 < n) :
    ∃ b, A = some ⟨b, 0, none⟩ := by
  obtain ⟨G, g1, -, -⟩ := H.upd hm
  rcases g1.1.2 with ⟨h2, h3⟩ | ⟨g, cap, cur, h3, -⟩
  · omega
  · simp only [Value.slice.injEq] at h3; exact ⟨g, h3.1⟩

theorem Hp.slLen {M : Nat → Prop} {w0 w : World} {m : Mem} (H : Hp M w0 w m) (k : Nat) {A : Option Addr} {n c : Nat} {xs : List Value} {e : TypeId} {s : Nat} (hm : m[k]? = some (.sl A n c xs e s)) : xs.length = n * s ∧ n ≤ c ∧ c ≤ maxLen := by
  obtain ⟨G, g1, -, -⟩ := H.upd hm
  refine ⟨g1.1.1, ?_⟩
  rcases g1.1.2 with ⟨h2, h3⟩ | ⟨g, cap, cur, h3, h4, h5, h6, h7, h8, h9⟩
  · simp only [Value.slice.injEq] at h2; omega
  · simp only [Value.slice.injEq] at h3; omega

/-! ### Code -/

def WN (ro : Option Nat) (P : Program) (N : FN) (c : Code) (Q : Exit → Act → World → Prop) (T : Tab) (w : World) : Prop := At N T w (Code.wpR ro P c Q)
def WC (P : Program) (N : FN) (ops : Array Oper) (Q : Exit → Act → World → Prop) (fl : FL) (L : OT) (T : Tab) (w : World) : Prop := At N T w (wpC P ops Q fl L)

/-- The parts of code. -/
def cl : Code → Code
  | .seq a _ => a
  | .cond _ a _ => a
  | .block _ a => a
  | .loop a => a
  | .scope a => a
  | c => c
def cr : Code → Code
  | .seq _ b => b
  | .cond _ _ b => b
  | c => c
def isSeq : Code → Bool | .seq .. => true | _ => false
def isReg : Code → Bool | .region .. => true | _ => false
def opsOf : Code → Array Oper | .region _ ops _ => ops | _ => #[]
def drawOf : Code → Bool | .region _ _ d => d | _ => false
def condOf : Code → Option Operand | .cond x _ _ => some x | _ => none
def blockOf : Code → Option Nat | .block i _ => some i | _ => none
def isLoop : Code → Bool | .loop _ => true | _ => false
def exitOf : Code → Option Nat | .exit i => some i | _ => none
def isRet : Code → Bool | .ret => true | _ => false
def isSkip : Code → Bool | .skip => true | _ => false

/-- No way out by a panic. -/
def NoPanic (Q : Exit → Act → World → Prop) : Exit → Act → World → Prop
  | .panic _, _, _ => False
  | e, a, w => Q e a w

theorem NoPanic.imp {Q : Exit → Act → World → Prop} : ∀ (e : Exit) (a : Act) (w : World), NoPanic Q e a w → Q e a w := fun e a w h => by
  cases e <;> first | exact h | exact h.elim

/-- What an operation does to memory: 0 nothing, 1 reads, 2 makes new memory, 3 anything. -/
def cls : Op → Nat
  | .load .. => 1
  | .lookup .. => 1
  | .alloc _ | .box .. | .buildSlice .. | .makeSlice .. | .makeMap .. => 2
  | .call c => match c.callee with
    | .builtin b => match b with
      | .len | .cap | .max | .min => 0
      | _ => 3
    | _ => 2
  | .store .. | .mapUpdate .. | .insert .. | .entryStore .. | .panic _ | .go _ | .defer _ | .send .. | .recv .. | .select .. | .next .. | .range .. | .mapEntry .. | .entry .. => 3
  | _ => 0

def clD (dr : Bool) (ops : Array Oper) (ov : List (Nat × Nat)) (i : Nat) : Nat :=
  match ov.lookup i with
  | some c => c
  | none => match ops[i]? with
    | none => 3
    | some o => if 1 < cls o.op && !dr then 3 else cls o.op
def flD (dr : Bool) (ops : Array Oper) (ov : List (Nat × Nat)) : FL := ⟨clD dr ops ov, no, none⟩
def flR (ro : Option Nat) (dr : Bool) (ops : Array Oper) (ov : List (Nat × Nat)) : FL := ⟨clD dr ops ov, no, ro⟩
theorem okT_c (ops : Array Oper) (c : Nat → Nat) (d d' : Nat → Prop) (r r' : Option Nat) : ∀ (t : OT) (b : Bool) (l : Array Bool), okT ops ⟨c, d, r⟩ b l t = okT ops ⟨c, d', r'⟩ b l t
  | .nil, _, _ => rfl
  | .s i t, b, l => by
    have e : ∀ x y, indep ops ⟨c, d, r⟩ x y = indep ops ⟨c, d', r'⟩ x y := fun x y => by unfold indep; rfl
    simp only [okT, okT_c ops c d d' r r' t, e]
  | .br t u, b, l => by simp only [okT, okT_c ops c d d' r r' t, okT_c ops c d d' r r' u]

/-- What follows a first part of code. -/
def SQ (ro : Option Nat) (P : Program) (c : Code) (Q : Exit → Act → World → Prop) : Exit → Act → World → Prop := Exit.then (Code.wpR ro P c Q) Q

section
variable {ro : Option Nat} {P : Program} {N : FN} {Q : Exit → Act → World → Prop} {T : Tab} {w : World}

theorem wn_seq {c : Code} (hc : isSeq c = true) (h : WN ro P N (cl c) (SQ ro P (cr c) Q) T w) : WN ro P N c Q T w := by
  cases c <;> simp [isSeq] at hc
  exact fun a ha => wpIn_seq (h a ha)

theorem wn_skip {c : Code} (hc : isSkip c = true) (h : At N T w (Q .normal)) : WN ro P N c Q T w := by
  cases c <;> simp [isSkip] at hc
  exact fun a ha => wpIn_skip (h a ha)

theorem wn_block {c : Code} (i : Nat) (hc : blockOf c = some i) (h : WN ro P N (cl c) (Exit.inBlock i Q) T w) : WN ro P N c Q T w := by
  cases c <;> simp [blockOf] at hc
  subst hc
  exact fun a ha => wpIn_block (h a ha)

theorem wn_exit {c : Code} (i : Nat) (hc : exitOf c = some i) (h : At N T w (Q (.exit i))) : WN ro P N c Q T w := by
  cases c <;> simp [exitOf] at hc
  subst hc
  exact fun a ha => wpIn_exit (h a ha)

theorem wn_ret {c : Code} (hc : isRet c = true) (h : At N T w (Q .ret)) : WN ro P N c Q T w := by
  cases c <;> simp [isRet] at hc
  exact fun a ha => wpIn_ret (h a ha)

theorem wn_regO {c : Code} (ov : List (Nat × Nat)) (n : Nat) (hc : (isReg c && !drawOf c && noDefer (opsOf c) && (opsOf c).size == n) = true) (h : WC P N (opsOf c) Q (flR ro false (opsOf c) ov) (rng 0 n) T w) : WN ro P N c Q T w := by
  cases c <;> simp [isReg] at hc
  rename_i id ops d
  obtain ⟨⟨hd, hnd⟩, hn⟩ := hc
  have : d = false := by simpa [drawOf] using hd
  subst this
  have hr : ∀ k i, rng i k = ol (List.range' i k) := by
    intro k
    induction k with
    | zero => intro i; rfl
    | succ k ih => intro i; simp [rng, ol, ih, List.range'_succ]
  have hn' : ops.size = n := by simpa [opsOf] using hn
  subst hn'
  refine fun a ha => wpIn_region ?_
  have := h a ha
  rw [hr, ← List.range_eq_range'] at this
  exact wpOps_of_wpC (fl := flR ro false ops ov) hnd _ _ _ this

theorem wn_regD {c : Code} (ov : List (Nat × Nat)) (t : OT)
    (hc : (isReg c && drawOf c && noDefer (opsOf c) && Region.noSelect (opsOf c) && okT (opsOf c) (flD true (opsOf c) ov) false (Array.replicate (opsOf c).size false) t && P.follows .mixedOrders) = true)
    {M : Nat → Prop} {w0 : World} {m : Mem} (H : Hp M w0 w m) (h : ∀ w', Hp M w0 w' m → WC P N (opsOf c) (NoPanic Q) (flR ro true (opsOf c) ov) t T w') : WN ro P N c Q T w := by
  cases c <;> simp [isReg] at hc
  rename_i id ops d
  have hd : d = true := by simpa [drawOf] using hc.1.1.1.1
  subst hd
  intro a ha
  refine wpIn_mono (wp_region_ord (Q := NoPanic Q) (fl := flR ro true ops ov) (t := t) hc.2 ?_ (fun _ _ _ _ _ h => h) (h { w with drawn := w.drawn + 1 } (H.same rfl rfl rfl rfl) a ha)) NoPanic.imp
  simp only [opsOf] at hc
  have e : okT ops (flR ro true ops ov) false (Array.replicate ops.size false) t = okT ops (flD true ops ov) false (Array.replicate ops.size false) t := okT_c ops _ no no ro none t _ _
  rw [e]
  simp [hc.1.1.1.2, hc.1.1.2, hc.1.2]

theorem wn_cond {c : Code} (x : Operand) (b : Bool) (hc : condOf c = some x) (hx : evT T x = some (.bool b)) (h1 : b = true → WN ro P N (cl c) Q T w) (h2 : b = false → WN ro P N (cr c) Q T w) : WN ro P N c Q T w := by
  cases c <;> simp [condOf] at hc
  subst hc
  exact fun a ha => wpIn_cond_split (evT_spec ha hx) (fun hb => h1 hb a ha) (fun hb => h2 hb a ha)

theorem wn_condT {c : Code} (x : Operand) (hc : condOf c = some x) (hx : evT T x = some (.bool true)) (h1 : WN ro P N (cl c) Q T w) : WN ro P N c Q T w :=
  wn_cond x true hc hx (fun _ => h1) (fun h => by cases h)
theorem wn_condF {c : Code} (x : Operand) (hc : condOf c = some x) (hx : evT T x = some (.bool false)) (h2 : WN ro P N (cr c) Q T w) : WN ro P N c Q T w :=
  wn_cond x false hc hx (fun h => by cases h) (fun _ => h2)

/-- A round's end: a state y, nearer to the end. -/
def RE (N : FN) {α : Type} (Tf : α → Tab) (J : α → World → Prop) (mu : α → Nat) (m0 : Nat) : Act → World → Prop := fun a' w'' => ∃ y, Tm N (Tf y) a' ∧ J y w'' ∧ mu y < m0

/-- A loop, of whose head each frame tells some state. -/
theorem wn_loopS {c : Code} {α : Type} (Tf : α → Tab) (J : α → World → Prop) (mu : α → Nat) (hc : isLoop c = true) (h0 : ∀ a, Tm N T a → ∃ x0, Tm N (Tf x0) a ∧ J x0 w)
    (h : ∀ x w', J x w' → WN ro P N (cl c) (Exit.then (RE N Tf J mu (mu x)) Q) (Tf x) w') : WN ro P N c Q T w := by
  cases c <;> simp [isLoop] at hc
  rename_i body
  intro a ha b k cs hro hb hr
  have key : ∀ n x a w, mu x = n → Tm N (Tf x) a → J x w →
      ∃ e a' w', Q e a' w' ∧ ArrivesIn (Machine.fenced P (FR ro)) P (lone (b.atR a (.code body :: .inLoop body :: k)) cs w) b k cs e a' w' := by
    intro n
    induction n using Nat.strongRecOn with
    | _ n ih =>
      intro x a w hn hT hJ
      obtain ⟨e, a₁, w₁, hq, harr⟩ := h x w hJ a hT b (.inLoop body :: k) cs hro hb hr
      cases e with
      | normal =>
        obtain ⟨y, hT₁, hJ₁, hlt⟩ := hq
        obtain ⟨e₂, a₂, w₂, hq₂, harr₂⟩ := ih (mu y) (hn ▸ hlt) y a₁ w₁ rfl hT₁ hJ₁
        exact ⟨e₂, a₂, w₂, hq₂, .of_steps (StepsIn.trans harr (.one (fenced_calm hb hr rfl) stepR_inLoop)) harr₂⟩
      | exit id => exact ⟨_, a₁, w₁, hq, .pass (x := .inLoop body) rfl (fun _ _ => .inl (by simp)) harr⟩
      | goto l => exact ⟨_, a₁, w₁, hq, .pass (x := .inLoop body) rfl (fun _ _ => .inl (by simp)) harr⟩
      | ret => exact ⟨_, a₁, w₁, hq, .pass (x := .inLoop body) rfl (fun _ _ => .inl (by simp)) harr⟩
      | panic ch => exact ⟨_, a₁, w₁, hq, .pass (x := .inLoop body) rfl (fun _ _ => .inl (by simp)) harr⟩
      | outgrown => exact ⟨_, a₁, w₁, hq, .pass (x := .inLoop body) rfl (fun _ _ => .inl (by simp)) harr⟩
  obtain ⟨x0, hx0, hJ0⟩ := h0 a ha
  obtain ⟨e, a', w', hq, harr⟩ := key _ x0 a w rfl hx0 hJ0
  exact ⟨e, a', w', hq, .of_steps (.one (fenced_calm hb hr rfl) stepR_loop) harr⟩

/-! ### Ways on -/
theorem n_sq {c : Code} (h : WN ro P N c Q T w) : At N T w (SQ ro P c Q .normal) := h
theorem e_sq {i : Nat} {c : Code} (h : At N T w (Q (.exit i))) : At N T w (SQ ro P c Q (.exit i)) := h
theorem r_sq {c : Code} (h : At N T w (Q .ret)) : At N T w (SQ ro P c Q .ret) := h
theorem n_blk {i : Nat} (h : At N T w (Q .normal)) : At N T w (Exit.inBlock i Q .normal) := h
theorem n_np {Q : Exit → Act → World → Prop} (h : At N T w (Q .normal)) : At N T w (NoPanic Q .normal) := h
theorem e_then {i : Nat} {K : Act → World → Prop} (h : At N T w (Q (.exit i))) : At N T w (Exit.then K Q (.exit i)) := h
theorem e_np {i : Nat} (h : At N T w (Q (.exit i))) : At N T w (NoPanic Q (.exit i)) := h
theorem e_blk {i : Nat} (h : At N T w (Q .normal)) : At N T w (Exit.inBlock i Q (.exit i)) := fun a ha => by
  simp only [Exit.inBlock, if_true]; exact h a ha
theorem e_blkn {i j : Nat} (hne : (j == i) = false) (h : At N T w (Q (.exit j))) : At N T w (Exit.inBlock i Q (.exit j)) := fun a ha => by
  simp only [Exit.inBlock]; rw [if_neg (by simpa using hne)]; exact h a ha
theorem r_then {K : Act → World → Prop} (h : At N T w (Q .ret)) : At N T w (Exit.then K Q .ret) := h
theorem r_blk {i : Nat} (h : At N T w (Q .ret)) : At N T w (Exit.inBlock i Q .ret) := h
theorem r_np (h : At N T w (Q .ret)) : At N T w (NoPanic Q .ret) := h

end

/-! ### Operations -/
section
variable {P : Program} {N : FN} {ops : Array Oper} {Q : Exit → Act → World → Prop} {fl : FL} {T : Tab} {w : World} {i : Nat} {rest : OT}

theorem wc_nil {L : OT} (hL : L = .nil) (h : At N T w (Q .normal)) : WC P N ops Q fl L T w := by subst hL; exact h
theorem wc_br {L t u : OT} (hL : L = .br t u) (h1 : WC P N ops Q fl t T w) (h2 : WC P N ops Q fl u T w) : WC P N ops Q fl L T w := by subst hL; exact fun a ha => ⟨h1 a ha, h2 a ha⟩

/-- The operation at hand, if it is wanted. -/
def opT (N : Nat) (ops : Array Oper) (T : Tab) (i : Nat) : Option Oper :=
  match ops[i]? with
  | none => none
  | some o => if dstOk N o.dst && wantT T ops o == some true then some o else none

theorem opT_spec {a : Act} (ha : Tm N T a) {o : Oper} (h : opT N ops T i = some o) : ops[i]? = some o ∧ dstOk N o.dst = true ∧ Region.wanted o (yielded ops a.tmps) = true := by
  unfold opT at h
  split at h
  · cases h
  · rename_i o' ho
    split at h
    · rename_i hc
      simp only [Bool.and_eq_true, beq_iff_eq] at hc
      simp only [Option.some.injEq] at h; subst h
      exact ⟨ho, hc.1, wantT_spec ha hc.2⟩
    · cases h

/-- An operation that is not wanted. -/
def skT (N : Nat) (ops : Array Oper) (T : Tab) (i : Nat) : Option (Option Nat) :=
  match ops[i]? with
  | none => none
  | some o => if dstOk N o.dst && wantT T ops o == some false then some o.dst else none

theorem wc_skip (d : Option Nat) (hop : skT N ops T i = some d) (h : WC P N ops Q fl rest (putT T d undef) w) : WC P N ops Q fl (.s i rest) T w := fun a ha => by
  unfold skT at hop
  split at hop
  · cases hop
  · rename_i o ho
    split at hop
    · rename_i hc
      simp only [Bool.and_eq_true, beq_iff_eq] at hc
      simp only [Option.some.injEq] at hop; subst hop
      have hw := wantT_spec ha hc.2
      have hn := h _ (ha.putT hc.1 undef)
      simp only [wpC, ho]
      split
      · exact ⟨undef, Or.inr ⟨hw, rfl⟩, hn⟩
      · unfold wpOpR
        simp only [ho, hw, Bool.false_eq_true, if_false]
        exact ⟨fun _ => KeepD.refl fl.d w, hn⟩
    · cases hop

/-- An operation that yields a value and leaves memory alone. -/
theorem wc_val {o : Oper} {v : Value} (ho : opT N ops T i = some o) (hf : Nat.ble (fl i) 1 = true) (hv : ∀ a w', Tm N T a → In fl.d (fl i) w w' → (execOp a.eval o).run P w' = .ok (.value v) w')
    (h : WC P N ops Q fl rest (putT T o.dst v) w) : WC P N ops Q fl (.s i rest) T w := fun a ha => by
  obtain ⟨h1, h2, h3⟩ := opT_spec ha ho
  exact wpC_quiet h1 (Nat.le_of_ble_eq_true hf) (Or.inl ⟨h3, fun w' hw' => hv a w' ha hw'⟩) (h _ (ha.putT h2 v))

/-- An operation that does something to memory. -/
theorem wc_heap {o : Oper} (ho : opT N ops T i = some o) (hf : Nat.ble 2 (fl i) = true)
    (hv : ∀ a, Tm N T a → operR fl.ro P o a w (fun a' w' => (fl i ≤ 2 → KeepD fl.d w w') ∧ wpC P ops Q fl rest a' w') Q) : WC P N ops Q fl (.s i rest) T w := fun a ha => by
  obtain ⟨h1, h2, h3⟩ := opT_spec ha ho
  have hf' := Nat.le_of_ble_eq_true hf
  simp only [wpC, h1]
  rw [if_neg (by omega)]
  unfold wpOpR
  simp only [h1, h3, if_true]
  exact hv a ha

/-! #### New blocks -/
/-! #### Loads -/
def aggB (P : Program) (ty : TypeId) : Option Bool := pureRun P (isAgg ty)
def sizeB (P : Program) (ty : TypeId) : Option Nat := pureRun P (sizeOf ty)

/-- A variable's value, now and as long as the blocks stay. -/
def Ld (P : Program) (d : Nat → Prop) (w : World) (ty : TypeId) (b off : Nat) (v : Value) : Prop := ∀ w', KeepD d w w' → (loadVar ty ⟨b, off, none⟩).run P w' = .ok v w'

theorem cell_blk {w : World} {b off : Nat} {blk : Array Value} {T : TypeId} {fr : Nat × Nat} (hb : w.heap[b]? = some (.cells blk T fr)) : w.cell? ⟨b, off, none⟩ = blk[off]? := by
  simp [World.cell?, hb]

theorem Ld.one {d : Nat → Prop} {w : World} {ty b off : Nat} {blk : Array Value} {Tb : TypeId} {fr : Nat × Nat} {v : Value} (hb : w.heap[b]? = some (.cells blk Tb fr)) (hty : aggB P ty = some false)
    (hv : blk[off]? = some v) (hnd : ¬ d b := by exact fun h => h) : Ld P d w ty b off v := by
  intro w' k
  have hb' := (k.2 b (lt_of_some hb) hnd).trans hb
  unfold loadVar
  rw [Sem.run_bind, pureRun_spec hty w']
  simp only [Result.andThen_ok, Bool.false_eq_true, if_false]
  simp [load, Sem.run, cell_blk hb', hv]

theorem Ld.agg {d : Nat → Prop} {w : World} {ty b off n : Nat} {blk : Array Value} {Tb : TypeId} {fr : Nat × Nat} {vs : List Value} (hb : w.heap[b]? = some (.cells blk Tb fr)) (hty : aggB P ty = some true)
    (hn : sizeB P ty = some n) (hl : vs.length = n) (hv : ∀ j, j < n → blk[off + j]? = vs[j]?) (hnd : ¬ d b := by exact fun h => h) : Ld P d w ty b off (.agg vs.toArray) := by
  intro w' k
  have hb' := (k.2 b (lt_of_some hb) hnd).trans hb
  subst hl
  have hlc := run_loadCells_list (P := P) w' ⟨b, off, none⟩ vs (fun j v hj => by
    have hadd : (⟨b, off, none⟩ : Addr).add j = ⟨b, off + j, none⟩ := by unfold Addr.add; split <;> simp_all
    rw [hadd, cell_blk hb']
    rw [hv j (List.getElem?_eq_some_iff.1 hj).1]
    exact hj)
  unfold loadVar
  rw [Sem.run_bind, pureRun_spec hty w']
  simp only [Result.andThen_ok, if_true]
  simp only [Sem.run_bind, pureRun_spec hn w', Result.andThen_ok, hlc, Sem.run_pure]

def ldT (T : Tab) (o : Oper) : Option (Option Nat × TypeId × Addr) :=
  match o.op with
  | .load ty x => match evT T x with
    | some (.pointer (some a)) => some (o.dst, ty, a)
    | _ => none
  | _ => none

/-! #### Stores -/
def stT (T : Tab) (o : Oper) : Option (TypeId × Addr × Value) :=
  match o.op, o.dst with
  | .store ty x y, none => match evT T x, evT T y with
    | some (.pointer (some a)), some v => some (ty, a, v)
    | _, _ => none
  | _, _ => none

/-- Cells written over. -/
def blit (cs : List Value) (off : Nat) (vs : List Value) : List Value := cs.take off ++ vs ++ cs.drop (off + vs.length)

def flat (vs : List Value) : Bool := vs.all Value.oneCell'

theorem run_storeVar {M : Nat → Prop} {w0 : World} {m : Mem} (H : Hp M w0 w m) (k : Nat) {ty b off Tb : Nat} {cs : List Value} {v : Value} (hm : m[k]? = some (.bk b (row cs Tb)))
    (hn : sizeB P ty = some v.cells.size) (hl : off + v.cells.size ≤ cs.length) (hfl : ∀ u ∈ v.cells.toList, u.oneCell' = true) :
    ∃ w', (storeVar ty ⟨b, off, none⟩ v).run P w = .ok () w' ∧ Hp M w0 w' (m.set k (.bk b (row (blit cs off v.cells.toList) Tb))) := by
  have hb := H.ent hm
  have hst := run_storeCells_at P b off Tb v.cells.toList 0 cs.toArray w hb (by simpa using hl) hfl
  simp only [Nat.add_zero] at hst
  refine ⟨w.setRow b (cs.take off ++ v.cells.toList ++ cs.drop (off + v.cells.toList.length)).toArray, ?_, H.put (o' := row (blit cs off v.cells.toList) Tb) hm rfl rfl rfl (size_setRow _ _ _) ?_ (fun j hj => ?_)⟩
  · unfold storeVar
    rw [Sem.run_bind, pureRun_spec hn w]
    simp only [Result.andThen_ok, ne_eq, not_true_eq_false, if_false]
    simpa using hst
  · have := setRow_heap w b cs.toArray (blit cs off v.cells.toList).toArray Tb (0, 0) hb
    simpa [blit, row] using this
  · simp [World.setRow, Array.getElem?_modify, Ne.symm hj]

theorem wc_st {M : Nat → Prop} {w0 : World} {m : Mem} (H : Hp M w0 w m) (k : Nat) {b off Tb : Nat} {cs cs' vs : List Value} (ty : TypeId) (v : Value)
    (n : Nat) (hop' : ((opT N ops T i).bind (stT T), fl i, sizeB P ty) = (some (ty, ⟨b, off, none⟩, v), 3, some n)) (hvs : v.cells = vs.toArray) (hm : m[k]? = some (.bk b (row cs Tb))) (hn1 : vs.length = n)
    (hl : off + n ≤ cs.length) (hfl : ∀ u ∈ vs, u.oneCell' = true) (hcs : blit cs off vs = cs')
    (h : ∀ w', Hp M w0 w' (m.set k (.bk b (row cs' Tb))) → WC P N ops Q fl rest T w') : WC P N ops Q fl (.s i rest) T w := by
  simp only [Prod.mk.injEq] at hop'
  obtain ⟨hop, hf, hn0⟩ := hop'
  have hsz : v.cells.size = n := by rw [hvs]; simpa using hn1
  have hls : v.cells.toList = vs := by rw [hvs]
  have hn : sizeB P ty = some v.cells.size := by rw [hsz]; exact hn0
  obtain ⟨o, ho, h2⟩ := Option.bind_eq_some_iff.1 hop
  unfold stT at h2
  split at h2
  · rename_i ty' x y hox hdst
    split at h2
    · rename_i a' v' hx hy
      simp only [Option.some.injEq, Prod.mk.injEq] at h2
      obtain ⟨rfl, rfl, rfl⟩ := h2
      refine wc_heap ho (by rw [hf]; rfl) fun a ha => ?_
      obtain ⟨w', hw, H'⟩ := run_storeVar (P := P) H k hm hn (by rw [hsz]; exact hl) (by rw [hls]; exact hfl)
      rw [hls] at H'
      have hrun : (execOp a.eval o).run P w = .ok .skip w' := by
        unfold execOp
        simp only [hox, evT_spec ha hx, evT_spec ha hy, Instr.storeAt, Instr.sureAddr, Sem.run_bind, Sem.run_pure, Result.andThen_ok, hw]
      unfold operR
      rw [hrun]
      subst hcs
      refine ⟨fun hh => by omega, ?_⟩
      rw [hdst]
      exact h w' H' _ ha
    · cases h2
  · cases h2

end
section
variable {P : Program} {N : FN} {ops : Array Oper} {Q : Exit → Act → World → Prop} {fl : FL} {T : Tab} {w : World} {i : Nat} {rest : OT}
/-! #### Places -/
theorem run_underlying' {t : TypeId} {u : TypeDesc} (h : P.underlying t = some u) (w : World) : (underlying t).run P w = .ok u w := by
  simp [underlying, program, Sem.run_bind, Sem.run, h, pure]

/-- Where a slice of a slice begins. -/
def slA (A : Option Addr) (l m s : Nat) : Option Addr := if m = l then A else A.map (·.add (l * s))

theorem run_sliceBound {x : Value} {k : IntKind} {n : Int} (hx : x = .int k n) (y : Nat) (c : BoundsCode) (h0 : 0 ≤ n) (h1 : n ≤ y) (w : World) : (Instr.sliceBound x y c).run P w = .ok n.toNat w := by
  subst hx
  simp only [Instr.sliceBound, asIntOf, Sem.run_bind, Sem.run_pure, Result.andThen_ok, if_pos (And.intro h0 h1)]

theorem run_sliceBounds {isS : Bool} {len cap : Nat} {lo hi mx : Option Value} {l h m : Option Int} (hl : ∀ v, lo = some v → ∃ k n, v = .int k n ∧ l = some n) (hl' : lo = none → l = none)
    (hh : ∀ v, hi = some v → ∃ k n, v = .int k n ∧ h = some n) (hh' : hi = none → h = none) (hm : ∀ v, mx = some v → ∃ k n, v = .int k n ∧ m = some n) (hm' : mx = none → m = none)
    (hmh : m.isSome = true → h.isSome = true)
    (b0 : 0 ≤ l.getD 0) (b1 : l.getD 0 ≤ h.getD len) (b2 : h.getD len ≤ m.getD cap) (b3 : m.getD cap ≤ cap) (w : World) :
    (Instr.sliceBounds isS len cap lo hi mx).run P w = .ok ((l.getD 0).toNat, (h.getD len).toNat, (m.getD cap).toNat) w := by
  have e1 : ∀ n : Nat, ((n : Int)).toNat = n := fun n => by simp
  unfold Instr.sliceBounds
  cases mx with
  | none =>
    have := hm' rfl; subst this
    cases hi with
    | none =>
      have := hh' rfl; subst this
      cases lo with
      | none => have := hl' rfl; subst this; simp
      | some v =>
        obtain ⟨k, n, rfl, rfl⟩ := hl v rfl
        simp only [Option.getD_some, Option.getD_none] at *
        simp [run_sliceBound rfl len _ b0 b1]
    | some u =>
      obtain ⟨k2, n2, rfl, rfl⟩ := hh u rfl
      simp only [Option.getD_some, Option.getD_none] at *
      have hb := fun c => run_sliceBound (P := P) (x := .int k2 n2) rfl cap c (by omega) b2 w
      cases lo with
      | none =>
        have := hl' rfl; subst this
        simp [hb]
      | some v =>
        obtain ⟨k, n, rfl, rfl⟩ := hl v rfl
        simp only [Option.getD_some] at *
        simp [hb, run_sliceBound (P := P) (x := .int k n) rfl n2.toNat _ b0 (by omega)]
  | some q =>
    obtain ⟨k3, n3, rfl, rfl⟩ := hm q rfl
    cases hi with
    | none =>
      have := hh' rfl; subst this
      simp at hmh
    | some u =>
      obtain ⟨k2, n2, rfl, rfl⟩ := hh u rfl
      simp only [Option.getD_some] at *
      have ha := fun c => run_sliceBound (P := P) (x := .int k3 n3) rfl cap c (by omega) b3 w
      have hb := fun c => run_sliceBound (P := P) (x := .int k2 n2) rfl n3.toNat c (by omega) (by omega) w
      cases lo with
      | none =>
        have := hl' rfl; subst this
        simp [ha, hb]
      | some v =>
        obtain ⟨k, n, rfl, rfl⟩ := hl v rfl
        simp only [Option.getD_some] at *
        simp [ha, hb, run_sliceBound (P := P) (x := .int k n) rfl n2.toNat _ b0 (by omega)]

theorem slA_zero (A : Option Addr) (m s : Nat) : slA A 0 m s = A := by
  unfold slA
  split
  · rfl
  · cases A <;> simp [Addr.add]

theorem slA_some {b off l m s o' : Nat} (hne : l < m) (ho : off + l * s = o') : slA (some ⟨b, off, none⟩) l m s = some ⟨b, o', none⟩ := by
  subst ho
  unfold slA
  rw [if_neg (by omega)]
  simp only [Option.map_some, Addr.add]
  split
  · rename_i h; simp [h]
  · rfl

theorem Rd.slA {w : World} {A : Option Addr} {cs cs' : List Value} (h : Rd w A cs) {l m s k : Nat} (hm : l ≤ m) (hc : (cs.drop (l * s)).take k = cs') (hz : l = m → cs' = []) : Rd w (slA A l m s) cs' := by
  by_cases e : l = m
  · exact Or.inl (hz e)
  · by_cases hn : cs' = []
    · exact Or.inl hn
    rcases h with h | ⟨b, off, blk, T, fr, hA, hb, hcc⟩
    · subst h; simp at hc; exact absurd hc hn
    · subst hA
      refine Or.inr ⟨b, off + l * s, blk, T, fr, slA_some (by omega) rfl, hb, fun j hj => ?_⟩
      subst hc
      simp at hj
      rw [List.getElem?_take, if_pos (by omega), List.getElem?_drop, Nat.add_assoc, hcc _ (by omega)]

/-! #### Arithmetic that may fail -/
def shlV (k : IntKind) (a n : Int) : Int := k.wrap (a * 2 ^ (min n.toNat k.bits))
def shrV (k : IntKind) (a n : Int) : Int := a.fdiv (2 ^ (min n.toNat k.bits))

/-! #### The ends -/
def RV (P : Program) (T : Tab) (w : World) : ResultVar → Value → Prop
  | .tmp t, v => look T t = some v
  | .cell t ty, v => ∃ b off, look T t = some (.pointer (some ⟨b, off, none⟩)) ∧ Ld P no w ty b off v

/-- A result, as it is read. -/
def resG (tmps : Array Value) : ResultVar → Sem Value
  | .tmp t => pure (tmps.getD t undef)
  | .cell a t => do loadVar t (← asAddr (tmps.getD a undef))

theorem results_eq (fn : Func) (tmps : Array Value) : results fn tmps = (do
    let vs ← fn.results.mapM (resG tmps)
    pure (if h : vs.size = 1 then vs[0] else .tuple vs)) := by
  unfold results
  congr 1

theorem RV.run {a : Act} (ha : Tm N T a) {r : ResultVar} {v : Value} (h : RV P T w r v) : (resG a.tmps r).run P w = .ok v w := by
  cases r with
  | tmp t => have := ha.2.2 t v h; simp [resG, this]
  | cell t ty =>
    obtain ⟨b, off, hl, hld⟩ := h
    have := ha.2.2 t _ hl
    simp [resG, this, asAddr, hld w (KeepD.refl no w)]

theorem res1 {fn : Func} {r : ResultVar} {v : Value} (hr : fn.results = #[r]) (h1 : RV P T w r v) : ∀ a, Tm N T a → (results fn a.tmps).run P w = .ok v w := by
  intro a ha
  have hrun : (results fn a.tmps).run P w = .ok v w := by
    have := RV.run ha h1
    rw [results_eq, hr]
    simp [*]
  exact hrun

theorem res0 {fn : Func} (hr : fn.results = #[]) : ∀ a, Tm N T a → (results fn a.tmps).run P w = .ok (.tuple #[]) w := by
  intro a ha
  have hrun : (results fn a.tmps).run P w = .ok (.tuple #[]) w := by
    rw [results_eq, hr]
    simp
  exact hrun

theorem res2 {fn : Func} {r1 r2 : ResultVar} {v1 v2 : Value} (hr : fn.results = #[r1, r2]) (h1 : RV P T w r1 v1) (h2 : RV P T w r2 v2) : ∀ a, Tm N T a → (results fn a.tmps).run P w = .ok (.tuple #[v1, v2]) w := by
  intro a ha
  have hrun : (results fn a.tmps).run P w = .ok (.tuple #[v1, v2]) w := by
    have q1 := RV.run ha h1
    have q2 := RV.run ha h2
    rw [results_eq, hr]
    simp [*]
  exact hrun

theorem res3 {fn : Func} {r1 r2 r3 : ResultVar} {v1 v2 v3 : Value} (hr : fn.results = #[r1, r2, r3]) (h1 : RV P T w r1 v1) (h2 : RV P T w r2 v2)
    (h3 : RV P T w r3 v3) : ∀ a, Tm N T a → (results fn a.tmps).run P w = .ok (.tuple #[v1, v2, v3]) w := by
  intro a ha
  have hrun : (results fn a.tmps).run P w = .ok (.tuple #[v1, v2, v3]) w := by
    have q1 := RV.run ha h1
    have q2 := RV.run ha h2
    have q3 := RV.run ha h3
    rw [results_eq, hr]
    simp [*]
  exact hrun

theorem res4 {fn : Func} {r1 r2 r3 r4 : ResultVar} {v1 v2 v3 v4 : Value} (hr : fn.results = #[r1, r2, r3, r4]) (h1 : RV P T w r1 v1) (h2 : RV P T w r2 v2)
    (h3 : RV P T w r3 v3) (h4 : RV P T w r4 v4) : ∀ a, Tm N T a → (results fn a.tmps).run P w = .ok (.tuple #[v1, v2, v3, v4]) w := by
  intro a ha
  have hrun : (results fn a.tmps).run P w = .ok (.tuple #[v1, v2, v3, v4]) w := by
    have q1 := RV.run ha h1
    have q2 := RV.run ha h2
    have q3 := RV.run ha h3
    have q4 := RV.run ha h4
    rw [results_eq, hr]
    simp [*]
  exact hrun

def argTab (args : List Value) : Nat → Tab
  | i => match args with
    | [] => []
    | v :: r => (i, v) :: argTab r (i + 1)

theorem argTab_spec : ∀ (args : List Value) (i t : Nat) (v : Value), look (argTab args i) t = some v → i ≤ t ∧ args[t - i]? = some v
  | [], i, t, v, h => by simp [argTab, look] at h
  | u :: r, i, t, v, h => by
    unfold argTab at h
    simp only [look] at h
    by_cases e : i = t
    · subst e; simp at h; subst h; simp
    · rw [if_neg (by simpa using e)] at h
      have := argTab_spec r (i + 1) t v h
      refine ⟨by omega, ?_⟩
      have hh : t - i = (t - (i + 1)) + 1 := by omega
      rw [hh, List.getElem?_cons_succ]
      exact this.2

theorem enter {f : FuncId} {fn : Func} {c : Code} {args : List Value} {R : Ending → World → Prop} (hf : P.funcs[f]? = some fn) (hb : fn.body = some c) (ha : args.length ≤ fn.ntmps)
    (h : WN none P ⟨fn.ntmps, []⟩ c (bodyPost P fn R) (argTab args 0) w) : Calls P f args.toArray w R := by
  refine Calls.ofR (ro := none) (n := 0) (callsIn_of_wp hf hb trivial (h _ ⟨rfl, ?_, fun t v ht => ?_⟩) rfl)
  · simp; omega
  · obtain ⟨_, h2⟩ := argTab_spec args 0 t v ht
    simp only [Nat.sub_zero] at h2
    rw [Array.getElem?_append_left (by simpa using (List.getElem?_eq_some_iff.1 h2).1)]
    simpa using h2

end

/-! ### Numbers -/
/-- Cells of whole numbers. -/
def iv (k : IntKind) (l : List Int) : List Value := l.map (Value.int k)
theorem iv_length (k : IntKind) (l : List Int) : (iv k l).length = l.length := by simp [iv]
theorem iv_get {k : IntKind} {l : List Int} {j : Nat} (h : j < l.length) : (iv k l)[j]? = some (.int k (l.getD j 0)) := by
  simp [iv, List.getD_eq_getElem?_getD, h]
theorem iv_set (k : IntKind) (l : List Int) (j : Nat) (x : Int) (h : j < l.length) : blit (iv k l) j [Value.int k x] = iv k (l.set j x) := by
  unfold blit iv
  rw [List.set_eq_take_append_cons_drop, if_pos h]
  simp [List.map_take, List.map_drop]
theorem iv_flat (k : IntKind) (l : List Int) : ∀ u ∈ iv k l, u.oneCell' = true := by
  intro u hu
  obtain ⟨n, _, rfl⟩ := List.mem_map.1 hu
  rfl
def bnd (k : IntKind) (a b : Int) : Int := k.wrap ((BitVec.ofInt k.bits a &&& BitVec.ofInt k.bits b).toNat : Int)
def bor (k : IntKind) (a b : Int) : Int := k.wrap ((BitVec.ofInt k.bits a ||| BitVec.ofInt k.bits b).toNat : Int)
def bxr (k : IntKind) (a b : Int) : Int := k.wrap ((BitVec.ofInt k.bits a ^^^ BitVec.ofInt k.bits b).toNat : Int)
def bnt (k : IntKind) (a b : Int) : Int := k.wrap ((BitVec.ofInt k.bits a &&& ~~~ BitVec.ofInt k.bits b).toNat : Int)

/-! ### What is the same -/
section
variable {P : Program}
/-- Two values of a type compare as b says, d levels deep. -/
def EqV (P : Program) (d : Nat) (t : TypeId) (x y : Value) (b : Bool) : Prop := ∀ (D : Nat) (w : World), (Op.equalIn (D + d) t x y).run P w = .ok b w

theorem EqV.int {t : TypeId} {k k' : IntKind} (a b : Int) (h : P.underlying t = some (.int k')) : EqV P 1 t (.int k a) (.int k b) (decide (a = b)) := by
  intro D w
  rw [run_equalIn_int w D t k k' a b h]
  congr 1

theorem run_part_iv {e : TypeId} (hty : aggB P e = some false) {cs : List Value} {j : Nat} {v : Value} (h : cs[j]? = some v) (w : World) : (part e cs.toArray j).run P w = .ok v w := by
  unfold part
  rw [Sem.run_bind, pureRun_spec hty w]
  simp [h]

theorem EqV.arr {t e n : Nat} {k k' : IntKind} {i : TypeInfo} (hu : P.underlying t = some (.array n e)) (he : P.underlying e = some (.int k')) (hi : P.info? e = some i) (hs : P.cellsOf e = 1) (hg : aggB P e = some false)
    (xs ys : List Int) (hx : xs.length = n) (hy : ys.length = n) : EqV P 2 t (.agg (iv k xs).toArray) (.agg (iv k ys).toArray) (decide (xs = ys)) := by
  intro D w
  have key : ∀ m j, j + m = n → (Op.eqItems (D + 1) e 1 (iv k xs).toArray (iv k ys).toArray (List.range' j m)).run P w = .ok (decide (xs.drop j = ys.drop j)) w := by
    intro m
    induction m with
    | zero =>
      intro j hj
      rw [List.drop_eq_nil_of_le (by omega), List.drop_eq_nil_of_le (by omega)]
      simp [Op.eqItems]
    | succ m ih =>
      intro j hj
      have h1 : (iv k xs)[j * 1]? = some (.int k (xs.getD j 0)) := by rw [Nat.mul_one]; exact iv_get (by omega)
      have h2 : (iv k ys)[j * 1]? = some (.int k (ys.getD j 0)) := by rw [Nat.mul_one]; exact iv_get (by omega)
      rw [List.range'_succ]
      simp only [Op.eqItems, Sem.run_bind, run_part_iv hg h1, run_part_iv hg h2, Result.andThen_ok, run_equalIn_int w D e k k' _ _ he]
      have d1 : xs.drop j = xs.getD j 0 :: xs.drop (j + 1) := by
        rw [List.drop_eq_getElem_cons (by omega)]; simp [List.getD_eq_getElem?_getD, show j < xs.length by omega]
      have d2 : ys.drop j = ys.getD j 0 :: ys.drop (j + 1) := by
        rw [List.drop_eq_getElem_cons (by omega)]; simp [List.getD_eq_getElem?_getD, show j < ys.length by omega]
      rw [d1, d2]
      by_cases e : xs.getD j 0 = ys.getD j 0
      · rw [e]
        simp [ih (j + 1) (by omega)]
      · have : (xs.getD j 0 == ys.getD j 0) = false := by simpa using e
        rw [this]
        simp
        intro h; exact absurd (by simpa [List.getD_eq_getElem?_getD] using h) e
  have := key n 0 (by omega)
  rw [show D + 2 = (D + 1) + 1 from rfl, run_equalIn_array w (D + 1) _ _ hu hi, hs, List.range_eq_range', this]
  simp

variable {N : FN} {ops : Array Oper} {Q : Exit → Act → World → Prop} {fl : FL} {T : Tab} {w : World} {i : Nat} {rest : OT}

/-- An array of whole numbers of n places. -/
def arrB (P : Program) (t n : Nat) : Bool := match P.underlying t with
  | some (.array m e) => Nat.beq m n && (match P.underlying e with
    | some (.int _) => true
    | _ => false) && (P.info? e).isSome && Nat.beq (P.cellsOf e) 1 && (match aggB P e with
    | some b => !b
    | none => false)
  | _ => false
theorem EqV.arrC {t n : Nat} {k : IntKind} (h : arrB P t n = true) (xs ys : List Int) (hx : xs.length = n) (hy : ys.length = n) : EqV P 2 t (.agg (iv k xs).toArray) (.agg (iv k ys).toArray) (decide (xs = ys)) := by
  unfold arrB at h
  split at h
  · rename_i m e hu
    simp only [Bool.and_eq_true] at h
    obtain ⟨⟨⟨⟨h1, h2⟩, h3⟩, h4⟩, h5⟩ := h
    have h1 := Nat.eq_of_beq_eq_true h1
    have h4 := Nat.eq_of_beq_eq_true h4
    subst h1
    split at h2
    · rename_i k' he
      obtain ⟨i, hi⟩ := Option.isSome_iff_exists.1 h3
      split at h5
      · rename_i b hb
        cases b
        · exact EqV.arr hu he hi h4 hb xs ys hx hy
        · simp at h5
      · simp at h5
    · simp at h2
  · simp at h
/-! ### A slice that came in -/
theorem Rd.at {w : World} {A : Option Addr} {cs : List Value} (h : Rd w A cs) (hne : cs ≠ []) : ∃ b off, A = some ⟨b, off, none⟩ ∧
    (∀ ty j v, aggB P ty = some false → cs[j]? = some v → Ld P no w ty b (off + j) v) ∧
    (∀ ty n j vs, aggB P ty = some true → sizeB P ty = some n → j + n ≤ cs.length → (cs.drop j).take n = vs → Ld P no w ty b (off + j) (.agg vs.toArray)) := by
  rcases h with h | ⟨b, off, blk, Tb, fr, hA, hb, hc⟩
  · exact absurd h hne
  · refine ⟨b, off, hA, fun ty j v hty hv => Ld.one hb hty ?_, fun ty n j vs hty hn hl hv => ?_⟩
    · rw [hc j (List.getElem?_eq_some_iff.1 hv).1]; exact hv
    · subst hv
      refine Ld.agg hb hty hn (by simp; omega) (fun q hq => ?_)
      rw [Nat.add_assoc, hc _ (by omega), List.getElem?_take, if_pos hq, List.getElem?_drop]

end

theorem wi64 {x : Int} (h0 : -9223372036854775808 ≤ x) (h1 : x ≤ 9223372036854775807) : IntKind.i64.wrap x = x := by
  simp only [IntKind.wrap, IntKind.bits, IntKind.signed]
  simp
  omega
theorem wu64 {x : Int} (h0 : 0 ≤ x) (h1 : x ≤ 18446744073709551615) : IntKind.u64.wrap x = x := by
  simp only [IntKind.wrap, IntKind.bits, IntKind.signed]
  simp
  omega
end Go.Px
end
section
/-
  How flat arguments read (numbers, booleans, arrays and structures of them, slices of these), and how a row that answers true and changes nothing is closed. No condition.
-/
set_option linter.all false
namespace Go.Px
open Go.RowKit Go.ChangeShapes Go.WideShapes

/-- What a cell of a flat type holds. -/
inductive CK where
  | int (k : IntKind)
  | bool
  deriving DecidableEq

def CK.ok : CK → Value → Prop
  | .int k, v => ∃ n, v = .int k n ∧ (Lit.int k n).wf = true
  | .bool, v => ∃ b, v = .bool b

/-- A flat type's cells. -/
def flatK (P : Program) : Nat → TypeId → Option (List CK)
  | 0, _ => none
  | n + 1, t => match P.underlying t with
    | some .bool => some [.bool]
    | some (.int k) => some [.int k]
    | some (.array m e) => match flatK P n e with
      | some ks => if Nat.beq ks.length (P.cellsOf e) && Nat.beq (P.cellsOf t) (m * P.cellsOf e) then some (List.replicate m ks).flatten else none
      | none => none
    | some (.struct fs) => match fs.toList.foldl (fun (o : Option (List CK)) f => match o with
        | some l => match flatK P n f.type with
          | some ks => if Nat.beq f.offset l.length && Nat.beq ks.length (P.cellsOf f.type) then some (l ++ ks) else none
          | none => none
        | none => none) (some []) with
      | some l => if Nat.beq l.length (P.cellsOf t) then some l else none
      | none => none
    | _ => none

inductive OkC : List CK → List Value → Prop where
  | nil : OkC [] []
  | cons {a : CK} {c : Value} {ka : List CK} {cs : List Value} : a.ok c → OkC ka cs → OkC (a :: ka) (c :: cs)

theorem okC_split : ∀ {ka kb : List CK} {cs : List Value}, OkC (ka ++ kb) cs → ∃ c1 c2, cs = c1 ++ c2 ∧ OkC ka c1 ∧ OkC kb c2
  | [], kb, cs, h => ⟨[], cs, rfl, .nil, h⟩
  | a :: ka, kb, cs, h => by
    cases h with
    | cons h1 h2 =>
      obtain ⟨c1, c2, rfl, h3, h4⟩ := okC_split h2
      exact ⟨_ :: c1, c2, rfl, .cons h1 h3, h4⟩

theorem okC_cons {a : CK} {ka : List CK} {cs : List Value} (h : OkC (a :: ka) cs) : ∃ c r, cs = c :: r ∧ a.ok c ∧ OkC ka r := by
  cases h with
  | cons h1 h2 => exact ⟨_, _, rfl, h1, h2⟩

theorem okC_append {ka kb : List CK} {c1 c2 : List Value} (h1 : OkC ka c1) (h2 : OkC kb c2) : OkC (ka ++ kb) (c1 ++ c2) := by
  induction h1 with
  | nil => exact h2
  | cons a _ ih => exact .cons a ih

theorem okC_iv {k : IntKind} : ∀ {n : Nat} {cs : List Value}, OkC (List.replicate n (.int k)) cs → ∃ l : List Int, cs = iv k l ∧ l.length = n ∧ ∀ x ∈ l, (Lit.int k x).wf = true
  | 0, cs, h => by
    cases h
    exact ⟨[], rfl, rfl, by simp⟩
  | n + 1, cs, h => by
    rw [List.replicate_succ] at h
    obtain ⟨c, r, rfl, ⟨x, rfl, hx⟩, h2⟩ := okC_cons h
    obtain ⟨l, rfl, hl, hw⟩ := okC_iv h2
    exact ⟨x :: l, rfl, by simp [hl], by simpa [hx] using hw⟩


theorem mapM_some_cons {α β : Type} {f : α → Option β} {a : α} {l : List α} {r : List β} (h : (a :: l).mapM f = some r) : ∃ x y, f a = some x ∧ l.mapM f = some y ∧ r = x :: y := by
  rw [List.mapM_cons] at h
  cases ha : f a with
  | none => simp [ha] at h
  | some x =>
    cases hl : l.mapM f with
    | none => simp [ha, hl] at h
    | some y => simp [ha, hl] at h; exact ⟨x, y, rfl, rfl, h.symm⟩

variable {H : Type} {enc : TypeId × Value → H} {P : Program} {w : World} {base : Nat} {sp : Nat → Bool} {held : Bool}

theorem flat_trod (n : Nat) : ∀ {t : TypeId} {ks : List CK} (fuel : Nat) {cs : List Value} {x : DataW H × List MemPlace}, flatK P n t = some ks → DataW.trod enc P w base sp held fuel t cs = some x → OkC ks cs := by
  induction n with
  | zero => intro t ks fuel cs x h; simp [flatK] at h
  | succ n ih =>
    intro t ks fuel cs x h hd
    cases fuel with
    | zero => simp [DataW.trod] at hd
    | succ fuel =>
      rw [flatK] at h
      unfold DataW.trod at hd
      split at h
      · rename_i hu
        rw [hu] at hd
        simp only [Option.some.injEq] at h
        subst h
        split at hd <;> simp_all
        exact .cons ⟨_, rfl⟩ .nil
      · rename_i k hu
        rw [hu] at hd
        simp only [Option.some.injEq] at h
        subst h
        split at hd <;> simp_all
        obtain ⟨⟨rfl, h1⟩, h2⟩ := hd
        exact .cons ⟨_, rfl, h1⟩ .nil
      · rename_i m e hu
        split at h
        · rename_i ks' he
          split at h
          · rename_i hb
            simp only [Bool.and_eq_true] at hb
            have hb1 := Nat.eq_of_beq_eq_true hb.1
            have hb2 := Nat.eq_of_beq_eq_true hb.2
            simp only [Option.some.injEq] at h
            subst h
            rw [hu] at hd
            simp only at hd
            split at hd
            · rename_i hl
              cases hm : (List.range m).mapM (fun i => DataW.trod enc P w base sp held fuel e ((cs.drop (i * P.cellsOf e)).take (P.cellsOf e))) with
              | none => rw [hm] at hd; simp at hd
              | some r =>
                have key : ∀ (q a : Nat) (cs : List Value) (r : List (DataW H × List MemPlace)), cs.length = (a + q) * P.cellsOf e → (List.range' a q).mapM (fun i => DataW.trod enc P w base sp held fuel e ((cs.drop (i * P.cellsOf e)).take (P.cellsOf e))) = some r → OkC (List.replicate q ks').flatten (cs.drop (a * P.cellsOf e)) := by
                  intro q
                  induction q with
                  | zero =>
                    intro a cs r hl hm
                    rw [List.drop_eq_nil_of_le (by simp at hl; omega)]
                    exact .nil
                  | succ q ihq =>
                    intro a cs r hl hm
                    rw [List.range'_succ] at hm
                    obtain ⟨x, y, hx, hy, rfl⟩ := mapM_some_cons hm
                    have h1 := ih fuel he hx
                    have h2 := ihq (a + 1) cs y (by rw [hl]; congr 1; omega) hy
                    rw [List.replicate_succ, List.flatten_cons]
                    have : cs.drop (a * P.cellsOf e) = (cs.drop (a * P.cellsOf e)).take (P.cellsOf e) ++ cs.drop ((a + 1) * P.cellsOf e) := by
                      rw [Nat.succ_mul, ← List.drop_drop, List.take_append_drop]
                    rw [this]
                    exact okC_append h1 h2
                have := key m 0 cs r (by simpa [hb2] using hl) (by rw [← List.range_eq_range']; exact hm)
                simpa using this
            · simp at hd
          · simp at h
        · simp at h
      · rename_i fs hu
        split at h
        · rename_i l hf
          split at h
          · rename_i hb
            have hb := Nat.eq_of_beq_eq_true hb
            simp only [Option.some.injEq] at h
            subst h
            rw [hu] at hd
            simp only at hd
            split at hd
            · rename_i hl
              cases hm : fs.toList.mapM (fun f => DataW.trod enc P w base sp held fuel f.type ((cs.drop f.offset).take (P.cellsOf f.type))) with
              | none => rw [hm] at hd; simp at hd
              | some r =>
                have key : ∀ (gs : List Field) (l0 l : List CK) (r : List (DataW H × List MemPlace)),
                    gs.foldl (fun (o : Option (List CK)) f => match o with
                      | some l => match flatK P n f.type with
                        | some ks => if Nat.beq f.offset l.length && Nat.beq ks.length (P.cellsOf f.type) then some (l ++ ks) else none
                        | none => none
                      | none => none) (some l0) = some l →
                    gs.mapM (fun f => DataW.trod enc P w base sp held fuel f.type ((cs.drop f.offset).take (P.cellsOf f.type))) = some r →
                    OkC l0 (cs.take l0.length) → OkC l (cs.take l.length) := by
                  intro gs
                  induction gs with
                  | nil =>
                    intro l0 l r h1 _ h3
                    simp at h1
                    subst h1
                    exact h3
                  | cons f gs ihg =>
                    intro l0 l r h1 h2 h3
                    obtain ⟨x, y, hx, hy, rfl⟩ := mapM_some_cons h2
                    rw [List.foldl_cons] at h1
                    have hnone : ∀ gs : List Field, gs.foldl (fun (o : Option (List CK)) f => match o with
                      | some l => match flatK P n f.type with
                        | some ks => if Nat.beq f.offset l.length && Nat.beq ks.length (P.cellsOf f.type) then some (l ++ ks) else none
                        | none => none
                      | none => none) none = none := by
                      intro gs
                      induction gs with
                      | nil => rfl
                      | cons g gs ih => rw [List.foldl_cons]; exact ih
                    cases hk : flatK P n f.type with
                    | none => simp only [hk] at h1; rw [hnone] at h1; simp at h1
                    | some ks =>
                      simp only [hk] at h1
                      split at h1
                      · rename_i hc
                        simp only [Bool.and_eq_true] at hc
                        have c1 := Nat.eq_of_beq_eq_true hc.1
                        have c2 := Nat.eq_of_beq_eq_true hc.2
                        refine ihg _ _ _ h1 hy ?_
                        have h4 := ih fuel hk hx
                        rw [c1, ← c2] at h4
                        have : cs.take (l0 ++ ks).length = cs.take l0.length ++ (cs.drop l0.length).take ks.length := by
                          rw [List.length_append, List.take_add]
                        rw [this]
                        exact okC_append h3 h4
                      · rw [hnone] at h1; simp at h1
                have := key fs.toList [] l r hf hm (by simpa using OkC.nil)
                rwa [hb, ← hl, List.take_length] at this
            · simp at hd
          · simp at h
        · simp at h
      · simp at h



def isStr (P : Program) (t : TypeId) : Bool := match P.underlying t with
  | some (.struct _) => true
  | _ => false

theorem isStr_some {P : Program} {t : TypeId} (h : isStr P t = true) : ∃ fs, P.underlying t = some (.struct fs) := by
  unfold isStr at h
  split at h
  · rename_i fs heq; exact ⟨fs, heq⟩
  · simp at h

theorem open_str {r : Reach} {b0 : Nat} {t : TypeId} {v : Value} {d : DataW H} {ps : List MemPlace} (ht0 : isStr P t = true) {ks : List CK} (hk : flatK P 20 t = some ks)
    (hval : Value.okWide P w r b0 t v) (hd : DataW.Trod enc P w base sp held t v d ps) : ∃ cs : List Value, v = .agg cs.toArray ∧ OkC ks cs := by
  obtain ⟨fs, ht⟩ := isStr_some ht0
  obtain ⟨cs, rfl, hs⟩ := okWide_struct ht hval
  obtain ⟨fuel, hf⟩ := hd
  exact ⟨cs.toList, rfl, by simpa [Value.cells] using flat_trod 20 fuel hk hf⟩

theorem mapM_get {α β : Type} {f : α → Option β} : ∀ {l : List α} {r : List β}, l.mapM f = some r → r.length = l.length ∧ ∀ i (h : i < l.length), ∃ y, f l[i] = some y ∧ r[i]? = some y
  | [], r, h => by simp at h; subst h; simp
  | a :: l, r, h => by
    obtain ⟨x, y, hx, hy, rfl⟩ := mapM_some_cons h
    obtain ⟨h1, h2⟩ := mapM_get hy
    refine ⟨by simp [h1], fun i hi => ?_⟩
    cases i with
    | zero => exact ⟨x, hx, rfl⟩
    | succ i => obtain ⟨z, hz, hr⟩ := h2 i (by simpa using hi); exact ⟨z, by simpa using hz, by simpa using hr⟩

theorem cell_of_cells? {a : Addr} {n : Nat} {cs : List Value} (h : w.cells? base a n = some cs) : cs.length = n ∧ ∀ i, i < n → w.cell? (a.add i) = cs[i]? := by
  unfold World.cells? at h
  split at h
  · obtain ⟨h1, h2⟩ := mapM_get h
    refine ⟨by simpa using h1, fun i hi => ?_⟩
    obtain ⟨y, hy, hr⟩ := h2 i (by simpa using hi)
    rw [hr, ← hy]; simp
  · simp at h

theorem addr_add (a : Addr) (x y : Nat) : (a.add x).add y = a.add (x + y) := by
  unfold Addr.add
  by_cases hx : x = 0 <;> by_cases hy : y = 0 <;> simp [hx, hy, Nat.add_assoc]

/-- A slice of what is flat. -/
theorem trod_slice {t e : TypeId} (ht : P.underlying t = some (.slice e)) (hpos : 0 < P.cellsOf e) {fuel : Nat} {A : Option Addr} {len cap : Nat} {x : DataW H × List MemPlace}
    (hd : DataW.trod enc P w base sp held fuel t [.slice A len cap] = some x) :
    ∃ css : List (List Value), css.length = len ∧ len ≤ cap ∧ cap ≤ maxLen ∧ (∀ cs ∈ css, cs.length = P.cellsOf e ∧ ∃ f y, DataW.trod enc P w base sp held f e cs = some y) ∧ Rd w A css.flatten := by
  cases fuel with
  | zero => simp [DataW.trod] at hd
  | succ fuel =>
    unfold DataW.trod at hd
    rw [ht] at hd
    have hd' : (∃ a, A = some a ∧ (base ≤ a.block ∧ len ≤ cap ∧ cap ≤ maxLen) ∧ ∃ elems, (List.range len).mapM (fun i => (w.cells? base (a.add (i * P.cellsOf e)) (P.cellsOf e)).bind (DataW.trod enc P w base sp held fuel e)) = some elems) ∨ (A = none ∧ len = 0 ∧ cap = 0) := by
      cases A with
      | none =>
        right
        cases len <;> cases cap <;> simp_all
      | some a =>
        left
        refine ⟨a, rfl, ?_⟩
        simp only at hd
        split at hd
        · rename_i hc
          refine ⟨hc, ?_⟩
          obtain ⟨elems, he, -⟩ := Option.bind_eq_some_iff.1 hd
          exact ⟨elems, he⟩
        · simp at hd
    clear hd
    rcases hd' with ⟨a, rfl, ⟨hb, hl, hc⟩, elems, he⟩ | ⟨rfl, rfl, rfl⟩
    rotate_left
    · exact ⟨[], rfl, Nat.zero_le _, by unfold maxLen; omega, by simp, Or.inl rfl⟩
    · skip
      obtain ⟨h1, h2⟩ := mapM_get he
      simp at h1
      have hcs : ∀ i, i < len → ∃ cs y, w.cells? base (a.add (i * P.cellsOf e)) (P.cellsOf e) = some cs ∧ DataW.trod enc P w base sp held fuel e cs = some y := by
        intro i hi
        obtain ⟨y, hy, -⟩ := h2 i (by simpa using hi)
        obtain ⟨cs, g1, g2⟩ := Option.bind_eq_some_iff.1 hy
        exact ⟨cs, y, by simpa using g1, g2⟩
      let css := (List.range len).map fun i => ((w.cells? base (a.add (i * P.cellsOf e)) (P.cellsOf e)).getD [])
      have hget : ∀ i, i < len → ∃ cs, css[i]? = some cs ∧ w.cells? base (a.add (i * P.cellsOf e)) (P.cellsOf e) = some cs := by
        intro i hi
        obtain ⟨cs, y, g1, g2⟩ := hcs i hi
        exact ⟨cs, by simp [css, hi, g1], g1⟩
      have hlen : ∀ cs ∈ css, cs.length = P.cellsOf e := by
        intro cs hcs'
        obtain ⟨i, hi, rfl⟩ := List.mem_iff_getElem.1 hcs'
        have hi' : i < len := by simpa [css] using hi
        obtain ⟨cs, g1, g2⟩ := hget i hi'
        rw [List.getElem?_eq_getElem hi] at g1
        simp only [Option.some.injEq] at g1
        rw [g1]
        exact (cell_of_cells? g2).1
      refine ⟨css, by simp [css], hl, hc, fun cs hcs' => ⟨hlen cs hcs', ?_⟩, ?_⟩
      · obtain ⟨i, hi, rfl⟩ := List.mem_iff_getElem.1 hcs'
        have hi' : i < len := by simpa [css] using hi
        obtain ⟨cs, y, g1, g2⟩ := hcs i hi'
        exact ⟨fuel, y, by simp [css, g1, g2]⟩
      · by_cases hz : len = 0
        · left; simp [css, hz]
        right
        have hflat : ∀ (css : List (List Value)) (n : Nat), (∀ cs ∈ css, cs.length = n) → css.flatten.length = css.length * n ∧ ∀ i j, i < css.length → j < n → css.flatten[i * n + j]? = (css[i]?.getD [])[j]? := by
          intro css n
          induction css with
          | nil => simp
          | cons c css ih =>
            intro h
            obtain ⟨i1, i2⟩ := ih (fun x hx => h x (by simp [hx]))
            have hcl := h c (by simp)
            refine ⟨by simp only [List.flatten_cons, List.length_append, hcl, i1, List.length_cons, Nat.succ_mul]; omega, fun i j hi hj => ?_⟩
            cases i with
            | zero =>
              rw [List.flatten_cons, Nat.zero_mul, Nat.zero_add, List.getElem?_append_left (by omega)]; simp
            | succ i =>
              rw [List.flatten_cons, List.getElem?_append_right (by rw [Nat.succ_mul]; omega), show (i + 1) * n + j - c.length = i * n + j by rw [Nat.succ_mul]; omega, i2 i j (by simpa using hi) hj]
              simp
        obtain ⟨f1, f2⟩ := hflat css _ hlen
        have hcl : css.length = len := by simp [css]
        rw [hcl] at f1 f2
        have hread : ∀ j, j < css.flatten.length → w.cell? (a.add j) = css.flatten[j]? := by
          intro j hj
          rw [f1] at hj
          have hi : j / P.cellsOf e < len := (Nat.div_lt_iff_lt_mul hpos).2 hj
          have hm := Nat.mod_lt j hpos
          have hdm : j / P.cellsOf e * P.cellsOf e + j % P.cellsOf e = j := by rw [Nat.mul_comm]; exact Nat.div_add_mod _ _
          obtain ⟨cs, g1, g2⟩ := hget _ hi
          have := f2 _ _ hi hm
          rw [hdm] at this
          rw [this, g1]
          have h3 := (cell_of_cells? g2).2 _ hm
          simp only [Option.getD_some]
          rw [← h3]
          congr 1
          rw [addr_add, hdm]
        obtain ⟨b, off, spot⟩ := a
        have h0 := hread 0 (by rw [f1]; exact Nat.mul_pos (by omega) hpos)
        have hsome : ∃ v0, css.flatten[0]? = some v0 := ⟨_, List.getElem?_eq_getElem (by rw [f1]; exact Nat.mul_pos (by omega) hpos)⟩
        obtain ⟨v0, hv0⟩ := hsome
        rw [hv0] at h0
        have hspot : spot = none := by simpa [Addr.add] using World.cell?_spot h0
        subst hspot
        have hblk : ∃ blk T fr, w.heap[b]? = some (.cells blk T fr) := by
          have := h0
          unfold World.cell? at this
          simp only [Addr.add] at this
          cases hh : w.heap[b]? with
          | none => simp [hh] at this
          | some o => cases o <;> simp_all
        obtain ⟨blk, T, fr, hblk⟩ := hblk
        refine ⟨b, off, blk, T, fr, rfl, hblk, fun j hj => ?_⟩
        have := hread j hj
        rw [← this]
        by_cases hj0 : j = 0 <;> simp [World.cell?, Addr.add, hblk, hj0]




theorem Rd.left {w : World} {A : Option Addr} {xs ys : List Value} (h : Rd w A (xs ++ ys)) : Rd w A xs := by
  rcases h with h | h
  · left; simp only [List.append_eq_nil_iff] at h; exact h.1
  · by_cases hz : xs = []
    · left; exact hz
    right
    obtain ⟨b, off, blk, T, fr, rfl, h1, h2⟩ := h
    refine ⟨b, off, blk, T, fr, rfl, h1, fun j hj => ?_⟩
    rw [h2 j (by simp; omega), List.getElem?_append_left hj]


theorem wfI {k : IntKind} {n : Int} (h : (Lit.int k n).wf = true) : k.min ≤ n ∧ n ≤ k.max := by simpa [Lit.wf] using h
theorem wfU8 {n : Int} (h : (Lit.int .u8 n).wf = true) : 0 ≤ n ∧ n < 256 := by
  have := wfI h; simp [IntKind.min, IntKind.max, IntKind.signed, IntKind.bits] at this; omega

end Go.Px
end
section
/-
  More rules of this seat's walks: slices that grow, copies, text. No condition beside those that stand in each theorem.
-/
set_option linter.all false
namespace Go.Px
open Go.RowKit

section
variable {P : Program} {N : FN} {ops : Array Oper} {Q : Exit → Act → World → Prop} {fl : FL} {T : Tab} {w : World} {i : Nat} {rest : OT}

/-- What a type's cells are. -/
def tyT (P : Program) (e : TypeId) : Option (Nat × Nat × Nat) := match P.info? e with
  | some x => match x.zero with
    | some z => if Nat.beq z.cells.size x.size && Nat.ble 1 x.size && Nat.ble 1 x.bytes then some (x.size, x.bytes, e) else none
    | none => none
  | none => none

theorem tyT_spec {e s b e' : Nat} (h : tyT P e = some (s, b, e')) : ∃ x z, P.info? e = some x ∧ x.zero = some z ∧ x.size = s ∧ x.bytes = b ∧ z.cells.size = s ∧ 0 < s ∧ 0 < b := by
  unfold tyT at h
  split at h
  · rename_i x hx
    split at h
    · rename_i z hz
      split at h
      · rename_i hc
        simp only [Bool.and_eq_true] at hc
        simp only [Option.some.injEq, Prod.mk.injEq] at h
        obtain ⟨rfl, rfl, rfl⟩ := h
        exact ⟨x, z, hx, hz, rfl, rfl, Nat.eq_of_beq_eq_true hc.1.1, Nat.le_of_ble_eq_true hc.1.2, Nat.le_of_ble_eq_true hc.2⟩
      · cases h
    · cases h
  · cases h

/-- A builtin on two slices of one type. -/
def apT (P : Program) (T : Tab) (b : Builtin) (o : Oper) : Option (Option Nat × TypeId × Option (Nat × Nat × Nat) × Value × Value) :=
  match o.op with
  | .call { callee := .builtin b', args := ⟨[x, y]⟩, argTypes := ⟨[t, t']⟩ } =>
    if Nat.beq t t' && (b' == b) then match P.underlying t, evT T x, evT T y with
      | some (.slice e), some u, some v => some (o.dst, t, tyT P e, u, v)
      | _, _, _ => none
    else none
  | _ => none

theorem grow_upd {M : Nat → Prop} {w0 w' : World} {m : Mem} (H : Hp M w0 w m) {k : Nat} {A A' : Option Addr} {n c n' c' e s : Nat} {xs xs' : List Value} (hm : m[k]? = some (.sl A n c xs e s))
    (hown : w'.ownsRow w.heap.size e s (.slice A' n' c') n' xs' ∨ (A' = A ∧ w'.ownsRow 0 e s (.slice A' n' c') n' xs')) (hg : w.grownBy w' (Value.slice A n c).ownBlock) : Hp M w0 w' (m.set k (.sl A' n' c' xs' e s)) := by
  obtain ⟨G, g1, g2, g3⟩ := H.upd hm
  refine g3 w' _ (fun j => G j ∨ (w.heap.size ≤ j ∧ j < w'.heap.size)) hg.os hg.tape hg.output hg.size (fun j hj hG => hg.block j hj fun e => ?_) ⟨?_, fun a ha => ?_⟩ fun j hj => hj
  · cases A with
    | none => simp [Value.ownBlock] at e
    | some a => simp only [Value.ownBlock, Option.some.injEq] at e; exact hG (e ▸ g1.2 a rfl)
  · rcases hown with h | h
    · refine ⟨h.1, ?_⟩
      rcases h.2 with h2 | ⟨g, cap, cur, h3, h4, h5⟩
      · exact .inl h2
      · exact .inr ⟨g, cap, cur, h3, Nat.zero_le _, h5⟩
    · exact h.2
  · rcases hown with h | h
    · rcases h.2 with h2 | ⟨g, cap, cur, h3, h4, h5, -⟩
      · simp only [Value.slice.injEq] at h2; simp [h2.1.1] at ha
      · simp only [Value.slice.injEq] at h3
        rw [h3.1] at ha; cases ha
        exact .inr ⟨h4, lt_of_some h5⟩
    · exact .inl (g1.2 a (h.1 ▸ ha))

theorem Rd.cell {A : Addr} {ys : List Value} (h : Rd w (some A) ys) : ∀ j u, ys[j]? = some u → w.cell? (A.add j) = some u := by
  intro j u hj
  rcases h with h | ⟨b, off, blk, T, fr, hA, h1, h2⟩
  · subst h; simp at hj
  · cases hA
    have hadd : (⟨b, off, none⟩ : Addr).add j = ⟨b, off + j, none⟩ := by unfold Addr.add; split <;> simp_all
    rw [hadd]
    simp only [World.cell?, h1]
    rw [← hj]
    have := h2 j (List.getElem?_eq_some_iff.1 hj).1
    simpa using this

theorem Rd.none_nil {ys : List Value} (h : Rd w none ys) : ys = [] := by
  rcases h with h | ⟨_, _, _, _, _, hA, _⟩
  · exact h
  · cases hA

theorem run_append_none {t ty e : TypeId} {x : TypeInfo} (ht : P.underlying t = some (.slice e)) (hi : P.info? e = some x) {A : Option Addr} {n c cc : Nat} {xs : List Value} (hown : w.ownsRow 0 e x.size (.slice A n c) n xs) :
    (Builtin.append_ #[t, t] ty #[.slice A n c, .slice none 0 cc]).run P w = .ok (.slice A n c) w := by
  rcases hown.2 with ⟨h, h'⟩ | ⟨g, cap, cur, h, _, _, hnc, _⟩
  · simp only [Value.slice.injEq] at h
    obtain ⟨rfl, rfl, rfl⟩ := h
    simp [Builtin.append_, run_underlying ht, sizeOf, typeInfo, hi, Builtin.lenOf, Builtin.firstCells]
  · simp only [Value.slice.injEq] at h
    obtain ⟨rfl, -, rfl⟩ := h
    simp [Builtin.append_, run_underlying ht, sizeOf, typeInfo, hi, Builtin.lenOf, Builtin.firstCells, hnc, storeCells]

/-- A run of append on a slice of the call's own. -/
theorem run_app {M : Nat → Prop} {w0 : World} {m : Mem} (H : Hp M w0 w m) {k : Nat} {A B : Option Addr} {n c mm cc t ty e s by' : Nat} {xs ys : List Value} (hm : m[k]? = some (.sl A n c xs e s)) (ht : P.underlying t = some (.slice e)) (hy : tyT P e = some (s, by', e))
    (hR : Rd w B ys) (hl : ys.length = mm * s) (hfl : ∀ u ∈ ys, u.oneCell' = true) (hb : (n + mm) * by' ≤ 140737488355328) :
    ∃ A' c' w', (Builtin.append_ #[t, t] ty #[.slice A n c, .slice B mm cc]).run P w = .ok (.slice A' (n + mm) c') w' ∧ Hp M w0 w' (m.set k (.sl A' (n + mm) c' (xs ++ ys) e s)) := by
  obtain ⟨x, z, h1, h2, rfl, rfl, h5, h6, h7⟩ := tyT_spec hy
  have h63 : n + mm ≤ maxLen := by
    have : n + mm ≤ (n + mm) * x.bytes := Nat.le_mul_of_pos_right _ h7
    unfold maxLen; omega
  obtain ⟨G, g1, -, -⟩ := H.upd hm
  cases B with
  | none =>
    have hys := hR.none_nil
    subst hys
    have hmm : mm = 0 := by
      rcases Nat.mul_eq_zero.1 hl.symm with h | h
      · exact h
      · omega
    subst hmm
    refine ⟨A, c, w, run_append_none ht h1 g1.1, ?_⟩
    simp only [List.append_nil, Nat.add_zero]
    have := H.conv hm _ fun G hG => hG
    exact this
  | some a =>
    cases A with
    | none =>
      have hn : n = 0 ∧ c = 0 := by
        rcases g1.1.2 with ⟨h, h'⟩ | ⟨g, cap, cur, h, -⟩
        · simp only [Value.slice.injEq] at h; exact ⟨h.2.1, h.2.2⟩
        · simp at h
      obtain ⟨rfl, rfl⟩ := hn
      obtain ⟨v', w', hrun, ho, hg, -⟩ := run_append_own (P := P) w w.heap.size t ty e x z x.size x.bytes ht h1 h2 rfl rfl h5 h6 (.slice none 0 0) 0 xs ⟨g1.1.1, .inl ⟨rfl, rfl⟩⟩ a mm cc ys hl hR.cell hfl h63 hb (Nat.le_refl _)
      have hv : ∃ A' c', v' = .slice A' (0 + mm) c' := by
        rcases ho.2 with ⟨h, h'⟩ | ⟨g, cap, cur, h, -⟩
        · exact ⟨none, 0, by rw [h, h']⟩
        · exact ⟨_, _, h⟩
      obtain ⟨A', c', rfl⟩ := hv
      exact ⟨A', c', w', hrun, grow_upd H hm (.inl ho) hg⟩
    | some A0 =>
      obtain ⟨g, cap, cur, h3, h4, h5', hnc, hcm, hcs, htake⟩ : ∃ g cap cur, Value.slice (some A0) n c = .slice (some ⟨g, 0, none⟩) n cap ∧ 0 ≤ g ∧ w.heap[g]? = some (.cells cur e (0, 0)) ∧ n ≤ cap ∧ cap ≤ maxLen ∧ cur.size = cap * x.size ∧ cur.toList.take (n * x.size) = xs := by
        rcases g1.1.2 with ⟨h, h'⟩ | h
        · simp at h
        · exact h
      simp only [Value.slice.injEq, Option.some.injEq, true_and] at h3
      obtain ⟨rfl, rfl⟩ := h3
      by_cases hroom : n + mm ≤ c
      · obtain ⟨w', hrun, ho, hg⟩ := run_append_fits (P := P) w 0 t ty e x x.size ht h1 rfl g n c xs g1.1 a mm cc ys hl hR.cell hfl hroom
        exact ⟨_, c, w', hrun, grow_upd H hm (.inr ⟨rfl, ho⟩) hg⟩
      · obtain ⟨v', w', hrun, ho, hg, -⟩ := run_append_own (P := P) w 0 t ty e x z x.size x.bytes ht h1 h2 rfl rfl h5 h6 (.slice (some ⟨g, 0, none⟩) n c) n xs g1.1 a mm cc ys hl hR.cell hfl h63 hb (Nat.zero_le _)
        have hr := run_append_grow (P := P) w t ty e x z ht h1 h2 ⟨g, 0, none⟩ n c xs g1.1.1 (g1.1.cells (g := g) rfl) a mm cc ys hl hR.cell (by omega) (by unfold maxLen at h63; omega) (growslice_fits (by omega) hb)
        rw [hr] at hrun
        simp only [Result.ok.injEq] at hrun
        obtain ⟨rfl, rfl⟩ := hrun
        refine ⟨_, _, _, hr, grow_upd H hm (.inl ⟨ho.1, ?_⟩) hg⟩
        rcases ho.2 with h | ⟨g', cap', cur', q3, q4, q5, q6⟩
        · exact .inl h
        · have q3' := q3
          simp only [Value.slice.injEq, Option.some.injEq, Addr.mk.injEq, and_true, true_and] at q3
          exact .inr ⟨g', cap', cur', q3', by omega, q5, q6⟩

theorem wc_app {M : Nat → Prop} {w0 : World} {m : Mem} (H : Hp M w0 w m) (k : Nat) (d : Option Nat) {A B : Option Addr} {n c mm cc t e : Nat} (s by' : Nat) {xs ys : List Value}
    (hop' : ((opT N ops T i).bind (apT P T .append), fl i) = (some (d, t, some (s, by', e), .slice A n c, .slice B mm cc), 3)) (hm : m[k]? = some (.sl A n c xs e s))
    (hR : Rd w B ys) (hl : ys.length = mm * s) (hfl : ∀ u ∈ ys, u.oneCell' = true) (hb : (n + mm) * by' ≤ 140737488355328)
    (h : ∀ A' c' w', Hp M w0 w' (m.set k (.sl A' (n + mm) c' (xs ++ ys) e s)) → WC P N ops Q fl rest (putT T d (.slice A' (n + mm) c')) w') : WC P N ops Q fl (.s i rest) T w := by
  obtain ⟨hop, hf⟩ := Prod.mk.inj hop'
  obtain ⟨o, hq, h2⟩ := Option.bind_eq_some_iff.1 hop
  unfold apT at h2
  split at h2
  · rename_i b' x y t1 t2 hox
    split at h2
    · rename_i hc
      simp only [Bool.and_eq_true] at hc
      have hbb : b' = .append := eq_of_beq hc.2
      have htt := Nat.eq_of_beq_eq_true hc.1
      subst hbb htt
      split at h2
      · rename_i e' u v hu hx hy
        simp only [Option.some.injEq, Prod.mk.injEq] at h2
        obtain ⟨rfl, rfl, hty, rfl, rfl⟩ := h2
        have he : e' = e := by
          unfold tyT at hty
          split at hty
          · split at hty
            · split at hty
              · simp only [Option.some.injEq, Prod.mk.injEq] at hty; exact hty.2.2
              · cases hty
            · cases hty
          · cases hty
        subst he
        refine wc_heap hq (by rw [hf]; rfl) fun a ha => ?_
        obtain ⟨A', c', w', hrun, H'⟩ := run_app (P := P) H (ty := o.type) hm hu hty hR hl hfl hb (cc := cc)
        have hrun' : (execOp a.eval o).run P w = .ok (.value (.slice A' (n + mm) c')) w' := by
          unfold execOp
          simp [hox, resolve, invoke, builtin, evT_spec ha hx, evT_spec ha hy, hrun]
        unfold operR
        rw [hrun']
        exact ⟨fun hh => by omega, h A' c' w' H' _ (ha.putT (opT_spec ha hq).2.1 _)⟩
      · cases h2
    · cases h2
  · cases h2

/-! #### make -/
def mkT (P : Program) (T : Tab) (o : Oper) : Option (Option Nat × Option (Nat × Nat × Nat) × Int × Int) :=
  match o.op with
  | .makeSlice t x y => match P.underlying t, evT T x, evT T y with
    | some (.slice e), some (.int _ l), some (.int _ c) => some (o.dst, tyT P e, l, c)
    | _, _, _ => none
  | _ => none
def zOf (P : Program) (e : TypeId) : List Value := match P.info? e with
  | some x => match x.zero with
    | some z => z.cells.toList
    | none => []
  | none => []
/-- So many zero elements. -/
def zrep (zs : List Value) : Nat → List Value
  | 0 => []
  | n + 1 => zs ++ zrep zs n
theorem zrep_iv (k : IntKind) (n : Nat) : zrep [.int k 0] n = iv k (List.replicate n 0) := by
  induction n with
  | zero => rfl
  | succ n ih => rw [zrep, ih]; rfl
theorem zrep_length (zs : List Value) (n : Nat) : (zrep zs n).length = n * zs.length := by
  induction n with
  | zero => simp [zrep]
  | succ n ih => rw [zrep, List.length_append, ih, Nat.succ_mul]; omega
theorem zrep_get (zs : List Value) (hz : 0 < zs.length) : ∀ (n j : Nat), j < n * zs.length → (zrep zs n)[j]? = zs[j % zs.length]?
  | 0, j, h => by omega
  | n + 1, j, h => by
    rw [zrep]
    by_cases hj : j < zs.length
    · rw [List.getElem?_append_left hj, Nat.mod_eq_of_lt hj]
    · rw [List.getElem?_append_right (by omega), zrep_get zs hz n (j - zs.length) (by rw [Nat.succ_mul] at h; omega), ← Nat.mod_eq_sub_mod (by omega)]

theorem wc_mk {M : Nat → Prop} {w0 : World} {m : Mem} (H : Hp M w0 w m) (d : Option Nat) (n e s by' : Nat) (zs : List Value)
    (hop' : ((opT N ops T i).bind (mkT P T), Nat.ble 2 (fl i), zOf P e) = (some (d, some (s, by', e), (n : Int), (n : Int)), true, zs)) (hb : by' * n ≤ 281474976710656)
    (h : ∀ A w', Hp M w0 w' (.sl A n n (zrep zs n) e s :: m) → WC P N ops Q fl rest (putT T d (.slice A n n)) w') : WC P N ops Q fl (.s i rest) T w := by
  simp only [Prod.mk.injEq] at hop'
  obtain ⟨hop, hf, hz⟩ := hop'
  obtain ⟨o, hq, h2⟩ := Option.bind_eq_some_iff.1 hop
  unfold mkT at h2
  split at h2
  · rename_i t x y hox
    split at h2
    · rename_i e' kl l kc c hu hx hy
      simp only [Option.some.injEq, Prod.mk.injEq] at h2
      obtain ⟨rfl, hty, rfl, rfl⟩ := h2
      obtain ⟨xx, z, h1, h2, h3, h4, h5, h6, h7⟩ := tyT_spec hty
      have he : e' = e := by
        unfold tyT at hty
        split at hty
        · split at hty
          · split at hty
            · simp only [Option.some.injEq, Prod.mk.injEq] at hty; exact hty.2.2
            · cases hty
          · cases hty
        · cases hty
      subst he h3 h4
      have hz' : zs = z.cells.toList := by rw [← hz]; unfold zOf; simp [h1, h2]
      have hnn : n ≤ 281474976710656 := Nat.le_trans (Nat.le_mul_of_pos_left _ h7) hb
      refine wc_heap hq hf fun a ha => ?_
      obtain ⟨w', hrun, ho, hg⟩ := run_make_full (P := P) w 0 t e' xx z xx.size hu h1 h2 rfl kl kc n hb (by unfold maxLen; omega) (Nat.zero_le _)
      have hrun' : (execOp a.eval o).run P w = .ok (.value (.slice (some ⟨w.heap.size, 0, none⟩) n n)) w' := by
        unfold execOp
        simp [hox, evT_spec ha hx, evT_spec ha hy, hrun]
      unfold operR
      rw [hrun']
      have hzz : (madeCells z.cells (n * xx.size)).toList = zrep zs n := by
        apply List.ext_getElem?
        intro j
        have hl : (madeCells z.cells (n * xx.size)).toList.length = n * xx.size := by simp [madeCells]
        have hzl : zs.length = xx.size := by rw [hz']; simpa using h5
        by_cases hj : j < n * xx.size
        · rw [zrep_get zs (by omega) n j (by rw [hzl]; exact hj)]
          simp only [madeCells, hz', Array.getElem?_toList, h5, Array.length_toList]
          have hj' : j % z.cells.size < z.cells.size := Nat.mod_lt _ (by omega)
          have hlt : j % xx.size < z.cells.size := by rw [h5]; exact Nat.mod_lt _ h6
          simp [hj, getElem!_pos, hlt]
        · rw [List.getElem?_eq_none (by omega), List.getElem?_eq_none (by rw [zrep_length, hzl]; omega)]
      rw [hzz] at ho
      refine ⟨fun _ => ⟨hg.size, fun k hk _ => hg.block k hk (by simp)⟩, h _ w' ?_ _ (ha.putT (opT_spec ha hq).2.1 _)⟩
      refine H.add (mc := [_]) hg.os hg.tape hg.output hg.size (fun k hk => hg.block k hk (by simp)) ⟨fun k => k = w.heap.size, ⟨ho, fun a ha => by cases ha; rfl⟩, fun k hk => ?_, trivial⟩
      subst hk
      refine ⟨Nat.le_refl _, ?_⟩
      rcases ho.2 with ⟨hh, _⟩ | ⟨g, cap, cur, q3, q4, q5, q6⟩
      · simp at hh
      · simp only [Value.slice.injEq, Option.some.injEq, Addr.mk.injEq, and_true, true_and] at q3
        rw [q3.1]; exact lt_of_some q5
    · cases h2
  · cases h2

/-! #### Elements of a slice that is only known to be readable, or the call's own -/
def adr (A : Option Addr) (off : Nat) : Addr := (A.getD ⟨0, 0, none⟩).add off
theorem adr_some (b off o : Nat) : adr (some ⟨b, off, none⟩) o = ⟨b, off + o, none⟩ := by
  unfold adr Addr.add; simp

theorem Rd.isSome {A : Option Addr} {cs : List Value} (h : Rd w A cs) (h0 : 0 < cs.length) : A.isSome = true := by
  rcases h with h | ⟨b, off, blk, T, fr, rfl, _⟩
  · subst h; simp at h0
  · rfl

/-- A field of an element. -/
theorem adr_add (A : Option Addr) (x y : Nat) : (adr A x).add y = adr A (x + y) := by
  unfold adr; exact addr_add _ _ _

theorem Ld.rd {A : Option Addr} {cs : List Value} (h : Rd w A cs) (ty off : Nat) (v : Value) (hv : (aggB P ty = some false ∧ cs[off]? = some v) ∨ (∃ n, aggB P ty = some true ∧ sizeB P ty = some n ∧ off + n ≤ cs.length ∧ v = .agg ((cs.drop off).take n).toArray)) :
    ∀ w', KeepD no w w' → (loadVar ty (adr A off)).run P w' = .ok v w' := by
  rcases h with h | ⟨b, o, blk, T, fr, rfl, h1, h2⟩
  · subst h
    rcases hv with ⟨g1, g2⟩ | ⟨n, g1, g2, g3, rfl⟩
    · simp at g2
    · intro w' k
      have : n = 0 := by simp at g3; exact g3.2
      subst this
      unfold loadVar
      simp [Sem.run_bind, pureRun_spec g1 w', pureRun_spec g2 w', loadCells, loadCellsFrom]
  · rw [adr_some]
    rcases hv with ⟨g1, g2⟩ | ⟨n, g1, g2, g3, rfl⟩
    · exact Ld.one h1 g1 (by rw [h2 off (List.getElem?_eq_some_iff.1 g2).1]; exact g2)
    · refine Ld.agg h1 g1 g2 (by simp; omega) fun j hj => ?_
      rw [Nat.add_assoc, h2 _ (by omega), List.getElem?_take, if_pos hj, List.getElem?_drop]

theorem wc_ldA {A : Option Addr} {cs : List Value} (hR : Rd w A cs) (d : Option Nat) (ty off : Nat) (v : Value) (hop' : ((opT N ops T i).bind (ldT T), fl i) = (some (d, ty, adr A off), 1))
    (hv : (aggB P ty = some false ∧ cs[off]? = some v) ∨ (∃ n, aggB P ty = some true ∧ sizeB P ty = some n ∧ off + n ≤ cs.length ∧ v = .agg ((cs.drop off).take n).toArray))
    (h : WC P N ops Q fl rest (putT T d v) w) (hd : fl.d = no := by rfl) : WC P N ops Q fl (.s i rest) T w := by
  obtain ⟨hop, hf⟩ := Prod.mk.inj hop'
  obtain ⟨o, ho, h2⟩ := Option.bind_eq_some_iff.1 hop
  unfold ldT at h2
  split at h2
  · rename_i ty' x hox
    split at h2
    · rename_i a' hx
      simp only [Option.some.injEq, Prod.mk.injEq] at h2
      obtain ⟨rfl, rfl, rfl⟩ := h2
      refine wc_val ho (by rw [hf]; rfl) (fun a w' ha hw' => ?_) h
      have hk : KeepD no w w' := by rcases hw' with h0 | hk; (· omega); rw [hd] at hk; exact hk
      unfold execOp
      simp only [hox, evT_spec ha hx, Instr.loadAt, Instr.sureAddr, Sem.run_bind, Sem.run_pure, Result.andThen_ok, Ld.rd hR ty' off v hv w' hk]
    · cases h2
  · cases h2

theorem take_blit {xs : List Value} (sp vs : List Value) (off : Nat) (h : off + vs.length ≤ xs.length) : (blit (xs ++ sp) off vs).take xs.length = blit xs off vs := by
  have h1 : blit (xs ++ sp) off vs = blit xs off vs ++ sp := by
    unfold blit
    rw [List.take_append_of_le_length (by omega), List.drop_append_of_le_length h]
    simp only [List.append_assoc]
  have h2 : (blit xs off vs).length = xs.length := by simp only [blit, List.length_append, List.length_take, List.length_drop]; omega
  rw [h1, ← h2, List.take_left]

theorem run_stS {M : Nat → Prop} {w0 : World} {m : Mem} (H : Hp M w0 w m) (k : Nat) {A : Option Addr} {n c : Nat} {xs : List Value} {e s off ty : Nat} {v : Value} (hm : m[k]? = some (.sl A n c xs e s))
    (hn : sizeB P ty = some v.cells.size) (hpos : 0 < xs.length) (hl : off + v.cells.size ≤ xs.length) (hfl : ∀ u ∈ v.cells.toList, u.oneCell' = true) :
    ∃ w', (storeVar ty (adr A off) v).run P w = .ok () w' ∧ Hp M w0 w' (m.set k (.sl A n c (blit xs off v.cells.toList) e s)) := by
  obtain ⟨G, g1, g2, g3⟩ := H.upd hm
  have hlen := g1.1.1
  rcases g1.1.2 with ⟨h, h'⟩ | ⟨g, cap, cur, h3, h4, h5, h6, h7, h8, h9⟩
  · rw [h', Nat.zero_mul] at hlen; omega
  simp only [Value.slice.injEq, true_and] at h3
  obtain ⟨rfl, rfl⟩ := h3
  have hcl : cur.toList.length = c * s := by simpa using h8
  have hxl : xs.length ≤ cur.toList.length := by rw [hlen, hcl]; exact Nat.mul_le_mul_right _ h6
  have hst := run_storeCells_at P g off e v.cells.toList 0 cur w h5 (by simp at hxl ⊢; omega) hfl
  simp only [Nat.add_zero] at hst
  rw [adr_some, Nat.zero_add]
  refine ⟨w.setRow g (cur.toList.take off ++ v.cells.toList ++ cur.toList.drop (off + v.cells.toList.length)).toArray, ?_, g3 _ _ G rfl rfl rfl (by simp) (fun j _ hj => ?_) ⟨⟨?_, .inr ⟨g, c, _, rfl, h4, setRow_heap w g cur _ e _ h5, h6, h7, ?_, ?_⟩⟩, g1.2⟩ fun j hj => .inl hj⟩
  · unfold storeVar
    rw [Sem.run_bind, pureRun_spec hn w]
    simp only [Result.andThen_ok, ne_eq, not_true_eq_false, if_false]
    simpa using hst
  · have : j ≠ g := fun e => hj (e ▸ g1.2 _ rfl)
    simp [World.setRow, Array.getElem?_modify, Ne.symm this]
  · simp only [blit, List.length_append, List.length_take, List.length_drop, Array.length_toList]; omega
  · simp only [List.size_toArray, List.length_append, List.length_take, List.length_drop, Array.length_toList] at hcl hxl ⊢; omega
  · rw [← hlen]
    have hc : cur.toList = xs ++ cur.toList.drop (n * s) := by rw [← h9, List.take_append_drop]
    have := take_blit (xs := xs) (cur.toList.drop (n * s)) v.cells.toList off (by simpa using hl)
    rw [← hc] at this
    exact this

theorem wc_stS {M : Nat → Prop} {w0 : World} {m : Mem} (H : Hp M w0 w m) (k : Nat) {A : Option Addr} {nn c e s off : Nat} {xs xs' vs : List Value} (ty : TypeId) (v : Value)
    (n : Nat) (hop' : ((opT N ops T i).bind (stT T), fl i, sizeB P ty) = (some (ty, adr A off, v), 3, some n)) (hvs : v.cells = vs.toArray) (hm : m[k]? = some (.sl A nn c xs e s)) (hn1 : vs.length = n) (hpos : 0 < xs.length)
    (hl : off + n ≤ xs.length) (hfl : ∀ u ∈ vs, u.oneCell' = true) (hcs : blit xs off vs = xs')
    (h : ∀ w', Hp M w0 w' (m.set k (.sl A nn c xs' e s)) → WC P N ops Q fl rest T w') : WC P N ops Q fl (.s i rest) T w := by
  simp only [Prod.mk.injEq] at hop'
  obtain ⟨hop, hf, hn0⟩ := hop'
  have hsz : v.cells.size = n := by rw [hvs]; simpa using hn1
  have hls : v.cells.toList = vs := by rw [hvs]
  have hn : sizeB P ty = some v.cells.size := by rw [hsz]; exact hn0
  obtain ⟨o, ho, h2⟩ := Option.bind_eq_some_iff.1 hop
  unfold stT at h2
  split at h2
  · rename_i ty' x y hox hdst
    split at h2
    · rename_i a' v' hx hy
      simp only [Option.some.injEq, Prod.mk.injEq] at h2
      obtain ⟨rfl, rfl, rfl⟩ := h2
      refine wc_heap ho (by rw [hf]; rfl) fun a ha => ?_
      obtain ⟨w', hw, H'⟩ := run_stS (P := P) H k (off := off) hm hn hpos (by rw [hsz]; exact hl) (by rw [hls]; exact hfl)
      rw [hls] at H'
      have hrun : (execOp a.eval o).run P w = .ok .skip w' := by
        unfold execOp
        simp only [hox, evT_spec ha hx, evT_spec ha hy, Instr.storeAt, Instr.sureAddr, Sem.run_bind, Sem.run_pure, Result.andThen_ok, hw]
      unfold operR
      rw [hrun]
      subst hcs
      refine ⟨fun hh => by omega, ?_⟩
      rw [hdst]
      exact h w' H' _ ha
    · cases h2
  · cases h2


/-- A store that may be told of as one of class 2. -/
theorem wc_stD {M : Nat → Prop} {w0 : World} {m : Mem} (H : Hp M w0 w m) (k : Nat) {b off Tb : Nat} {cs cs' vs : List Value} (ty : TypeId) (v : Value)
    (n : Nat) (hop' : ((opT N ops T i).bind (stT T), fl i, sizeB P ty) = (some (ty, ⟨b, off, none⟩, v), 2, some n)) (hd : fl.d b) (hvs : v.cells = vs.toArray) (hm : m[k]? = some (.bk b (row cs Tb))) (hn1 : vs.length = n)
    (hl : off + n ≤ cs.length) (hfl : ∀ u ∈ vs, u.oneCell' = true) (hcs : blit cs off vs = cs')
    (h : ∀ w', Hp M w0 w' (m.set k (.bk b (row cs' Tb))) → WC P N ops Q fl rest T w') : WC P N ops Q fl (.s i rest) T w := by
  simp only [Prod.mk.injEq] at hop'
  obtain ⟨hop, hf, hn0⟩ := hop'
  have hsz : v.cells.size = n := by rw [hvs]; simpa using hn1
  have hls : v.cells.toList = vs := by rw [hvs]
  have hn : sizeB P ty = some v.cells.size := by rw [hsz]; exact hn0
  obtain ⟨o, ho, h2⟩ := Option.bind_eq_some_iff.1 hop
  unfold stT at h2
  split at h2
  · rename_i ty' x y hox hdst
    split at h2
    · rename_i a' v' hx hy
      simp only [Option.some.injEq, Prod.mk.injEq] at h2
      obtain ⟨rfl, rfl, rfl⟩ := h2
      refine wc_heap ho (by rw [hf]; rfl) fun a ha => ?_
      have hb := H.ent hm
      have hst := run_storeCells_at P b off Tb v'.cells.toList 0 cs.toArray w hb (by rw [hls]; simpa [hn1] using hl) (by rw [hls]; exact hfl)
      simp only [Nat.add_zero] at hst
      have H' := H.put (o' := row (blit cs off v'.cells.toList) Tb) (w' := w.setRow b (cs.take off ++ v'.cells.toList ++ cs.drop (off + v'.cells.toList.length)).toArray) hm rfl rfl rfl (size_setRow _ _ _)
        (by simpa [blit, row] using setRow_heap w b cs.toArray (blit cs off v'.cells.toList).toArray Tb (0, 0) hb) (fun j hj => by simp [World.setRow, Array.getElem?_modify, Ne.symm hj])
      rw [hls] at H'
      have hw : (storeVar ty' ⟨b, off, none⟩ v').run P w = .ok () (w.setRow b (cs.take off ++ v'.cells.toList ++ cs.drop (off + v'.cells.toList.length)).toArray) := by
        unfold storeVar
        rw [Sem.run_bind, pureRun_spec hn w]
        simp only [Result.andThen_ok, ne_eq, not_true_eq_false, if_false]
        simpa using hst
      have hrun : (execOp a.eval o).run P w = .ok .skip (w.setRow b (cs.take off ++ v'.cells.toList ++ cs.drop (off + v'.cells.toList.length)).toArray) := by
        unfold execOp
        simp only [hox, evT_spec ha hx, evT_spec ha hy, Instr.storeAt, Instr.sureAddr, Sem.run_bind, Sem.run_pure, Result.andThen_ok, hw]
      unfold operR
      rw [hrun]
      subst hcs
      refine ⟨fun _ => ⟨by simp, fun j _ hj => ?_⟩, ?_⟩
      · have : j ≠ b := fun e => hj (e ▸ hd)
        simp [World.setRow, Array.getElem?_modify, Ne.symm this]
      · rw [hdst, hls]
        exact h _ H' _ ha
    · cases h2
  · cases h2

/-! #### copy -/
theorem run_cp {M : Nat → Prop} {w0 : World} {m : Mem} (H : Hp M w0 w m) (k : Nat) {b off n c mm cc e t ty s by' Tb : Nat} {B : Option Addr} {cs ys : List Value} (hm : m[k]? = some (.bk b (row cs Tb))) (ht : P.underlying t = some (.slice e)) (hy : tyT P e = some (s, by', e))
    (hR : Rd w B ys) (hl : ys.length = mm * s) (hfl : ∀ u ∈ ys, u.oneCell' = true) (hroom : off + (min mm n) * s ≤ cs.length) :
    ∃ w', (Builtin.copy_ #[t, t] ty #[.slice (some ⟨b, off, none⟩) n c, .slice B mm cc]).run P w = .ok (.int .i64 (min mm n : Nat)) w' ∧ Hp M w0 w' (m.set k (.bk b (row (blit cs off (ys.take (min mm n * s))) Tb))) := by
  obtain ⟨x, z, h1, h2, rfl, rfl, h5, h6, h7⟩ := tyT_spec hy
  have hb := H.ent hm
  have hle : min mm n * x.size ≤ ys.length := by rw [hl]; exact Nat.mul_le_mul_right _ (Nat.min_le_left _ _)
  have htl : (ys.take (min mm n * x.size)).length = min mm n * x.size := by rw [List.length_take]; omega
  have hf : (Builtin.firstCells x.size (min mm n) (.slice B mm cc)).run P w = .ok (ys.take (min mm n * x.size)).toArray w := by
    cases B with
    | none =>
      have := hR.none_nil
      subst this
      simp [Builtin.firstCells]
    | some a =>
      exact run_firstCells_some (P := P) w x.size (min mm n) a mm cc _ htl fun j u hj => hR.cell j u (by
        rw [List.getElem?_take] at hj
        split at hj
        · exact hj
        · cases hj)
  have hst := run_storeCells_at P b off Tb (ys.take (min mm n * x.size)) 0 cs.toArray w hb (by rw [htl]; simpa using hroom) (fun u hu => hfl u (List.mem_of_mem_take hu))
  simp only [Nat.add_zero] at hst
  refine ⟨w.setRow b (cs.take off ++ ys.take (min mm n * x.size) ++ cs.drop (off + (ys.take (min mm n * x.size)).length)).toArray, ?_, H.put (o' := row (blit cs off (ys.take (min mm n * x.size))) Tb) hm rfl rfl rfl (size_setRow _ _ _) ?_ (fun j hj => ?_)⟩
  · simp only [Builtin.copy_]
    simp [run_underlying ht, Builtin.lenOf, sizeOf, typeInfo, h1, hst, goInt, show Nat.min mm n = min mm n from rfl, hf]
  · have := setRow_heap w b cs.toArray (blit cs off (ys.take (min mm n * x.size))).toArray Tb (0, 0) hb
    simpa [blit, row] using this
  · simp [World.setRow, Array.getElem?_modify, Ne.symm hj]

/-! #### Text -/
/-- Bytes as a text. -/
def bsT (P : Program) (T : Tab) (o : Oper) : Option (Option Nat × Value) :=
  match o.op with
  | .convert src dst x => match P.underlying src, P.underlying dst, evT T x with
    | some (.slice e), some .string, some v => (match P.underlying e with
      | some (.int .u8) => some (o.dst, v)
      | _ => none)
    | _, _, _ => none
  | _ => none

theorem wc_bs {A : Option Addr} {n c : Nat} (d : Option Nat) (l : List Int) (hop' : ((opT N ops T i).bind (bsT P T), fl i) = (some (d, .slice A n c), 1)) (hR : Rd w A (iv .u8 l)) (hl : l.length = n)
    (h : WC P N ops Q fl rest (putT T d (.string (strOfNums l))) w) (hdd : fl.d = no := by rfl) : WC P N ops Q fl (.s i rest) T w := by
  obtain ⟨hop, hf⟩ := Prod.mk.inj hop'
  obtain ⟨o, hq, h2⟩ := Option.bind_eq_some_iff.1 hop
  unfold bsT at h2
  split at h2
  · rename_i src dst x hox
    split at h2
    · rename_i e v hs hd hx
      split at h2
      · rename_i he
        simp only [Option.some.injEq, Prod.mk.injEq] at h2
        obtain ⟨rfl, rfl⟩ := h2
        refine wc_val hq (by rw [hf]; rfl) (fun a w' ha hw' => ?_) h
        have hk : KeepD no w w' := by rcases hw' with h0 | hk; (· omega); rw [hdd] at hk; exact hk
        have hR' := hR.keep ⟨hk.1, fun k hlt => hk.2 k hlt fun h => h⟩
        unfold execOp
        simp only [hox, evT_spec ha hx]
        rcases hR' with hn | ⟨b, off, blk, T', fr, rfl, h1, h2⟩
        · have hl0 : l = [] := by simpa [iv] using hn
          subst hl0
          simp at hl
          subst hl
          cases A with
          | none => simp [Sem.run_bind, run_convert_bytes_nil w' src e hs he 0 c dst hd]; rfl
          | some a0 =>
            rw [Sem.run_bind, run_convert_bytes_string w' src dst e _ 0 c hs he hd, run_bytesToString w' a0 0 c [] (by simp [loadCells, loadCellsFrom])]
            simp [strOfNums]
            rfl
        · have := run_convert_bytes_arg (P := P) w' src e hs he b off n c l hl (fun j hj => by
            rw [cell_blk h1, h2 j (by simp [iv]; omega), iv_get (by omega)]) dst hd
          simp [Sem.run_bind, this]
      · cases h2
    · cases h2
  · cases h2

theorem strOfNums_inj {a b : List Int} (ha : ∀ x ∈ a, 0 ≤ x ∧ x < 256) (hb : ∀ x ∈ b, 0 ≤ x ∧ x < 256) (h : (strOfNums a).data.toList = (strOfNums b).data.toList) : a = b := by
  simp only [strOfNums_data] at h
  have key : ∀ (l : List Int), (∀ x ∈ l, 0 ≤ x ∧ x < 256) → (l.map fun n => UInt8.ofNat n.toNat).map (fun u => (u.toNat : Int)) = l := by
    intro l hl
    rw [List.map_map]
    conv => rhs; rw [← List.map_id l]
    apply List.map_congr_left
    intro x hx
    have := hl x hx
    simp
    omega
  rw [← key a ha, ← key b hb, h]

theorem toList_beq (a b : ByteArray) : (a.toList == b.toList) = decide (a.data.toList = b.data.toList) := by
  rw [ByteArray.toList_eq a, ByteArray.toList_eq b]
  by_cases h : a.data.toList = b.data.toList
  · simp [h]
  · simp only [h, decide_false, beq_eq_false_iff_ne, ne_eq, not_false_eq_true]

theorem strOfNums_get {l : List Int} {n : Nat} (h : n < l.length) (hl : 0 ≤ l.getD n 0 ∧ l.getD n 0 < 256) : ∃ c : UInt8, (strOfNums l)[n]? = some c ∧ (c.toNat : Int) = l.getD n 0 := by
  refine ⟨UInt8.ofNat (l.getD n 0).toNat, ?_, ?_⟩
  · rw [ByteArray.getElem?_lt' _ _ (by rw [strOfNums_size]; exact h)]
    congr 1
    simp only [strOfNums, ByteArray.getElem_eq_getElem_data]
    simp [List.getD_eq_getElem?_getD, h]
  · generalize l.getD n 0 = x at hl
    simp; omega


theorem strOfNums_append (a b : List Int) : strOfNums a ++ strOfNums b = strOfNums (a ++ b) := by
  apply ByteArray.ext
  simp [strOfNums, ByteArray.data_append]

theorem Rd.part {A : Option Addr} {k : IntKind} {l : List Int} (h : Rd w A (iv k l)) (lo m n : Nat) (h1 : lo + n ≤ m) : Rd w (Go.Px.slA A lo m 1) (iv k ((l.drop lo).take n)) := by
  refine h.slA (k := n) (by omega) ?_ fun e => ?_
  · simp [iv, List.map_drop, List.map_take]
  · have : n = 0 := by omega
    subst this
    simp [iv]

theorem Rd.pre {A : Option Addr} {k : IntKind} {l : List Int} (h : Rd w A (iv k l)) (n : Nat) : Rd w A (iv k (l.take n)) := by
  have : iv k l = iv k (l.take n) ++ iv k (l.drop n) := by simp [iv, ← List.map_append]
  rw [this] at h
  exact h.left
end
/-! #### Plain records compare by their cells -/
def kd : Value → Option CK
  | .int k _ => some (.int k)
  | .bool _ => some .bool
  | _ => none

def isN (o : Option Nat) (n : Nat) : Bool := match o with | some x => Nat.beq x n | none => false
theorem isN_spec {o : Option Nat} {n : Nat} (h : isN o n = true) : o = some n := by
  unfold isN at h
  split at h
  · rw [Nat.eq_of_beq_eq_true h]
  · cases h

def eqF (P : Program) (g : TypeId → Option (List CK)) : List Field → Nat → Option (List CK)
  | [], _ => some []
  | f :: r, o => if f.name != "_" && Nat.beq f.offset o then match g f.type with
      | some ks => if Nat.ble 1 ks.length && isN (sizeB P f.type) ks.length then (eqF P g r (o + ks.length)).map (ks ++ ·) else none
      | none => none
    else none

def isB (o : Option Bool) (b : Bool) : Bool := match o with | some x => x == b | none => false
theorem isB_spec {o : Option Bool} {b : Bool} (h : isB o b = true) : o = some b := by
  unfold isB at h
  split at h
  · simpa using h
  · cases h

def eqK (P : Program) : Nat → TypeId → Option (List CK)
  | 0, _ => none
  | n + 1, t => match P.underlying t with
    | some .bool => if isB (aggB P t) false then some [.bool] else none
    | some (.int k) => if isB (aggB P t) false then some [.int k] else none
    | some (.array m e) => match eqK P n e with
      | some ks => if Nat.ble 1 ks.length && (P.info? e).isSome && Nat.beq (P.cellsOf e) ks.length && isN (sizeB P e) ks.length && isB (aggB P t) true then some (List.replicate m ks).flatten else none
      | none => none
    | some (.struct fs) => if !P.stoodInHeld t && isB (aggB P t) true then eqF P (eqK P n) fs.toList 0 else none
    | _ => none

/-- The value that so many cells are, of a type. -/
def vo (P : Program) (t : TypeId) (l : List Value) : Value := match aggB P t with
  | some true => .agg l.toArray
  | _ => l.headD undef

theorem run_part_vo {P : Program} {e off s : Nat} {g : Bool} {xs : List Value} (w : World) (hg : aggB P e = some g) (hs : sizeB P e = some s) (hl : off + s ≤ xs.length) (h1 : g = false → s = 1) :
    (part e xs.toArray off).run P w = .ok (vo P e ((xs.drop off).take s)) w := by
  unfold part vo
  rw [Sem.run_bind, pureRun_spec hg w, hg]
  cases g with
  | true => simp [Sem.run_bind, pureRun_spec hs w]
  | false =>
    have := h1 rfl
    subst this
    have hlt : off < xs.length := by omega
    simp only [Result.andThen_ok, Bool.false_eq_true, if_false]
    have hd : xs.drop off = xs[off] :: xs.drop (off + 1) := List.drop_eq_getElem_cons hlt
    rw [hd, List.take_succ_cons]
    simp [hlt]

theorem app_iff {α : Type} {a b c d : List α} (h : a.length = c.length) : a ++ b = c ++ d ↔ a = c ∧ b = d := by
  constructor
  · intro e; exact List.append_inj e h
  · rintro ⟨rfl, rfl⟩; rfl

theorem iv_inj {k : IntKind} {a b : List Int} : iv k a = iv k b ↔ a = b := by
  constructor
  · intro h
    unfold iv at h
    exact (List.map_inj_right (fun x y e => by simpa using e)).1 h
  · rintro rfl; rfl

theorem eqK_agg {P : Program} : ∀ {n t : Nat} {ks : List CK}, eqK P n t = some ks → ∃ g, aggB P t = some g ∧ (g = false → ks.length = 1)
  | 0, _, _, h => by simp [eqK] at h
  | n + 1, t, ks, h => by
    unfold eqK at h
    split at h
    · split at h
      · rename_i hb; simp only [Option.some.injEq] at h; subst h; exact ⟨_, isB_spec hb, by simp⟩
      · cases h
    · split at h
      · rename_i hb; simp only [Option.some.injEq] at h; subst h; exact ⟨_, isB_spec hb, by simp⟩
      · cases h
    · split at h
      · split at h
        · rename_i hb
          simp only [Bool.and_eq_true] at hb
          exact ⟨_, isB_spec hb.2, by simp⟩
        · cases h
      · cases h
    · split at h
      · rename_i hb
        simp only [Bool.and_eq_true] at hb
        exact ⟨_, isB_spec hb.2, by simp⟩
      · cases h
    · cases h

theorem kd_one {k : CK} {cs : List Value} (h : cs.map kd = [k].map some) : ∃ c, cs = [c] ∧ kd c = some k := by
  match cs, h with
  | [c], h => exact ⟨c, rfl, by simpa using h⟩
  | [], h => simp at h
  | _ :: _ :: _, h => simp at h

def EqB (P : Program) (d : Nat) (t : TypeId) (a b : List Value) : Prop := ∀ (D : Nat) (w : World), ∃ c, (Op.equalIn (D + d) t (vo P t a) (vo P t b)).run P w = .ok c w ∧ (c = true ↔ a = b)

theorem eqF_spec {P : Program} {d : Nat} {g : TypeId → Option (List CK)} (hg : ∀ t ks, g t = some ks → (∃ x, aggB P t = some x ∧ (x = false → ks.length = 1)) ∧ ∀ a b, a.map kd = ks.map some → b.map kd = ks.map some → EqB P d t a b) :
    ∀ {fs : List Field} {o : Nat} {ks : List CK} (a b pa pb : List Value), eqF P g fs o = some ks → pa.length = o → pb.length = o → a.map kd = ks.map some → b.map kd = ks.map some →
      ∀ (D : Nat) (w : World), ∃ c, (Op.eqFields (D + d) (pa ++ a).toArray (pb ++ b).toArray fs).run P w = .ok c w ∧ (c = true ↔ a = b)
  | [], o, ks, a, b, pa, pb, h, h1, h2, h3, h4, D, w => by
    simp only [eqF, Option.some.injEq] at h
    subst h
    simp at h3 h4
    subst h3 h4
    exact ⟨true, by simp [Op.eqFields], by simp⟩
  | f :: fs, o, ks, a, b, pa, pb, h, h1, h2, h3, h4, D, w => by
    unfold eqF at h
    split at h
    · rename_i hc
      simp only [Bool.and_eq_true] at hc
      have ho := Nat.eq_of_beq_eq_true hc.2
      split at h
      · rename_i k1 hk1
        split at h
        · rename_i hc2
          simp only [Bool.and_eq_true] at hc2
          obtain ⟨k2, hk2, rfl⟩ := Option.map_eq_some_iff.1 h
          obtain ⟨⟨x, hx, hx1⟩, hE⟩ := hg _ _ hk1
          have hs : sizeB P f.type = some k1.length := isN_spec hc2.2
          rw [List.map_append] at h3 h4
          obtain ⟨a1, a2, rfl, ha1, ha2⟩ := List.map_eq_append_iff.1 h3
          obtain ⟨b1, b2, rfl, hb1, hb2⟩ := List.map_eq_append_iff.1 h4
          have la : a1.length = k1.length := by have := congrArg List.length ha1; simpa using this
          have lb : b1.length = k1.length := by have := congrArg List.length hb1; simpa using this
          have p1 := run_part_vo (P := P) (off := f.offset) (xs := pa ++ (a1 ++ a2)) w hx hs (by simp; omega) hx1
          have p2 := run_part_vo (P := P) (off := f.offset) (xs := pb ++ (b1 ++ b2)) w hx hs (by simp; omega) hx1
          have d1 : ((pa ++ (a1 ++ a2)).drop f.offset).take k1.length = a1 := by rw [ho, ← h1, List.drop_left, ← la, List.take_left]
          have d2 : ((pb ++ (b1 ++ b2)).drop f.offset).take k1.length = b1 := by rw [ho, ← h2, List.drop_left, ← lb, List.take_left]
          rw [d1] at p1
          rw [d2] at p2
          obtain ⟨c1, e1, e2⟩ := hE a1 b1 ha1 hb1 D w
          have hname : f.name ≠ "_" := by simpa using hc.1
          simp only [Op.eqFields, ne_eq, hname, not_false_eq_true, if_true, Sem.run_bind, p1, p2, e1, Result.andThen_ok]
          rw [app_iff (by omega)]
          cases c1 with
          | false => exact ⟨false, by simp, by simp at e2; simp [e2]⟩
          | true =>
            obtain ⟨c, r1, r2⟩ := eqF_spec hg a2 b2 (pa ++ a1) (pb ++ b1) hk2 (by simp; omega) (by simp; omega) ha2 hb2 D w
            simp only [List.append_assoc] at r1
            refine ⟨c, by simpa using r1, ?_⟩
            simp at e2
            simp [e2, r2]
        · cases h
      · cases h
    · cases h

theorem eqK_spec {P : Program} : ∀ (n : Nat) {t : Nat} {ks : List CK}, eqK P n t = some ks → ∀ a b, a.map kd = ks.map some → b.map kd = ks.map some → EqB P n t a b
  | 0, _, _, h, _, _, _, _ => by simp [eqK] at h
  | n + 1, t, ks, h, a, b, ha, hb => by
    intro D w
    have hh := h
    unfold eqK at h
    split at h
    · rename_i hu
      split at h
      · rename_i hg
        simp only [Option.some.injEq] at h; subst h
        obtain ⟨x, rfl, hx⟩ := kd_one ha
        obtain ⟨y, rfl, hy⟩ := kd_one hb
        have hg := isB_spec hg
        cases x <;> simp [kd] at hx
        cases y <;> simp [kd] at hy
        rename_i x y
        refine ⟨x == y, ?_, by simp⟩
        simp only [vo, hg, List.headD_cons]
        exact run_equalIn_bool' w (D + n) t x y hu
      · cases h
    · rename_i k hu
      split at h
      · rename_i hg
        simp only [Option.some.injEq] at h; subst h
        obtain ⟨x, rfl, hx⟩ := kd_one ha
        obtain ⟨y, rfl, hy⟩ := kd_one hb
        have hg := isB_spec hg
        cases x <;> simp [kd] at hx
        cases y <;> simp [kd] at hy
        rename_i k1 x k2 y
        refine ⟨x == y, ?_, by simp [hx, hy]⟩
        simp only [vo, hg, List.headD_cons]
        rw [hx, hy]
        exact run_equalIn_int w (D + n) t k k x y hu
      · cases h
    · rename_i m e hu
      split at h
      · rename_i k1 hk1
        split at h
        · rename_i hc
          simp only [Bool.and_eq_true, Option.some.injEq] at hc h
          subst h
          obtain ⟨⟨⟨⟨c1, c2⟩, c3⟩, c4⟩, c5⟩ := hc
          have c1 := Nat.le_of_ble_eq_true c1
          obtain ⟨inf, hinf⟩ := Option.isSome_iff_exists.1 c2
          have c3 := Nat.eq_of_beq_eq_true c3
          have hs : sizeB P e = some k1.length := isN_spec c4
          have hg := isB_spec c5
          obtain ⟨x, hx, hx1⟩ := eqK_agg hk1
          simp only [vo, hg]
          rw [show D + (n + 1) = (D + n) + 1 from rfl, run_equalIn_array w (D + n) _ _ hu hinf, c3, List.range_eq_range']
          have key : ∀ m j (pa pb a b : List Value), pa.length = j * k1.length → pb.length = j * k1.length → a.map kd = ((List.replicate m k1).flatten).map some → b.map kd = ((List.replicate m k1).flatten).map some →
              ∃ c, (Op.eqItems (D + n) e k1.length (pa ++ a).toArray (pb ++ b).toArray (List.range' j m)).run P w = .ok c w ∧ (c = true ↔ a = b) := by
            intro m
            induction m with
            | zero =>
              intro j pa pb a b _ _ ha hb
              simp at ha hb
              subst ha hb
              exact ⟨true, by simp [Op.eqItems], by simp⟩
            | succ m ih =>
              intro j pa pb a b h1 h2 ha hb
              rw [List.replicate_succ, List.flatten_cons, List.map_append] at ha hb
              obtain ⟨a1, a2, rfl, ha1, ha2⟩ := List.map_eq_append_iff.1 ha
              obtain ⟨b1, b2, rfl, hb1, hb2⟩ := List.map_eq_append_iff.1 hb
              have la : a1.length = k1.length := by have := congrArg List.length ha1; simpa using this
              have lb : b1.length = k1.length := by have := congrArg List.length hb1; simpa using this
              have p1 := run_part_vo (P := P) (off := j * k1.length) (xs := pa ++ (a1 ++ a2)) w hx hs (by simp; omega) hx1
              have p2 := run_part_vo (P := P) (off := j * k1.length) (xs := pb ++ (b1 ++ b2)) w hx hs (by simp; omega) hx1
              rw [← h1, List.drop_left, ← la, List.take_left, h1] at p1
              rw [← h2, List.drop_left, ← lb, List.take_left, h2] at p2
              obtain ⟨c1, e1, e2⟩ := eqK_spec n hk1 a1 b1 ha1 hb1 D w
              rw [List.range'_succ]
              simp only [Op.eqItems, Sem.run_bind, p1, p2, e1, Result.andThen_ok]
              rw [app_iff (by omega)]
              cases c1 with
              | false => exact ⟨false, by simp, by simp at e2; simp [e2]⟩
              | true =>
                obtain ⟨c, r1, r2⟩ := ih (j + 1) (pa ++ a1) (pb ++ b1) a2 b2 (by simp [Nat.succ_mul]; omega) (by simp [Nat.succ_mul]; omega) ha2 hb2
                simp only [List.append_assoc] at r1
                refine ⟨c, by simpa using r1, ?_⟩
                simp at e2
                simp [e2, r2]
          exact key m 0 [] [] a b (by simp) (by simp) ha hb
        · cases h
      · cases h
    · rename_i fs hu
      split at h
      · rename_i hc
        simp only [Bool.and_eq_true] at hc
        have hg := isB_spec hc.2
        have hf : P.fieldsOf t = fs := by unfold Program.fieldsOf; rw [hu]
        simp only [vo, hg]
        rw [show D + (n + 1) = (D + n) + 1 from rfl, run_equalIn_agg w (D + n) t _ _ (by rw [hf]; exact hu) (by simpa using hc.1), hf]
        exact eqF_spec (fun t ks h => ⟨eqK_agg h, fun a b ha hb => eqK_spec n h a b ha hb⟩) a b [] [] h rfl rfl ha hb D w
      · cases h
    · cases h

theorem EqV.flat {P : Program} {n t : Nat} {ks : List CK} (h : (eqK P n t, aggB P t) = (some ks, some true)) {a b : List Value} (ha : a.map kd = ks.map some) (hb : b.map kd = ks.map some) (c : Bool) (hc : c = true ↔ a = b) :
    EqV P n t (.agg a.toArray) (.agg b.toArray) c := by
  obtain ⟨h1, h2⟩ := Prod.mk.inj h
  intro D w
  obtain ⟨c', r1, r2⟩ := eqK_spec n h1 a b ha hb D w
  simp only [vo, h2] at r1
  rw [r1]
  have : c' = c := by
    cases c <;> cases c' <;> simp_all
  rw [this]
theorem kd_iv (k : IntKind) (l : List Int) : (iv k l).map kd = List.replicate l.length (some (.int k)) := by
  unfold iv
  rw [List.map_map]
  induction l with
  | nil => rfl
  | cons x l ih => simp only [List.map_cons, List.length_cons, List.replicate_succ, ih]; rfl
end Go.Px
end
section
/-
  Still more rules of this seat's walks: nil slices, a slice that is cut short, zero elements appended. No condition beside those that stand in each theorem.
-/
set_option linter.all false
namespace Go.Px
open Go.RowKit

section
variable {P : Program} {N : FN} {ops : Array Oper} {Q : Exit → Act → World → Prop} {fl : FL} {T : Tab} {w : World} {i : Nat} {rest : OT}

theorem run_eq_nil {t e : TypeId} (hu : P.underlying t = some (.slice e)) (a : Option Addr) (n c : Nat) (w : World) : (Op.equal t (.slice a n c) (.slice none 0 0)).run P w = .ok a.isNone w := by
  have key : ∀ d, (Op.equalIn (d + 1) t (.slice a n c) (.slice none 0 0)).run P w = .ok a.isNone w := by
    intro d
    cases a <;> simp [Op.equalIn, run_underlying hu]
  exact key 9999

/-- A slice of the call's own, cut short: what was behind is room. -/
theorem Hp.short {M : Nat → Prop} {w0 w : World} {m : Mem} (H : Hp M w0 w m) (k : Nat) {A : Option Addr} {n c : Nat} {xs : List Value} {e : TypeId} {s : Nat} (n' : Nat) (hm : m[k]? = some (.sl A n c xs e s)) (hn : n' ≤ n) :
    Hp M w0 w (m.set k (.sl A n' c (xs.take (n' * s)) e s)) :=
  H.conv hm _ fun G hG => by
    refine ⟨⟨?_, ?_⟩, hG.2⟩
    · have := Nat.mul_le_mul_right s hn
      rw [List.length_take, hG.1.1]; omega
    · rcases hG.1.2 with ⟨h, h'⟩ | ⟨g, cap, cur, h3, h4, h5, h6, h7, h8, h9⟩
      · simp only [Value.slice.injEq] at h
        have : n' = 0 := by omega
        subst this
        exact .inl ⟨by simp [h], rfl⟩
      · simp only [Value.slice.injEq] at h3
        refine .inr ⟨g, cap, cur, by simp [h3], h4, h5, by omega, h7, h8, ?_⟩
        rw [← h9, List.take_take, Nat.min_eq_left (Nat.mul_le_mul_right s hn)]

/-- What stands of pieces that are only read. -/
theorem Hp.prTo {M : Nat → Prop} {w0 w : World} {m : Mem} (H : Hp M w0 w m) (k : Nat) {φ ψ : World → Prop} (hm : m[k]? = some (.pr φ)) (h : ∀ w, φ w → ψ w) : Hp M w0 w (m.set k (.pr ψ)) :=
  H.conv hm _ fun G hG w' hw => h w' (hG w' hw)

/-- Zero elements appended to a slice that is nil. -/
theorem run_append_zeros_nil (w : World) (t tx ty e : TypeId) (x : TypeInfo) (z : Value) (k k' : IntKind) (ht : P.underlying t = some (.slice e)) (hx : P.underlying tx = some (.int k')) (hi : P.info? e = some x) (hz : x.zero = some z)
    (n : Nat) (h0 : 0 < n) (hs0 : 0 < x.size) (h63 : (n : Int) ≤ 9223372036854775807) (h48 : n * x.bytes ≤ 281474976710656) :
    (Builtin.append_ #[t, tx] ty #[.slice none 0 0, .int k n]).run P w =
      .ok (.slice (some ⟨w.heap.size, 0, none⟩) n (grownCap w n 0 e)) (w.drew.alloc (.cells (Builtin.zeroCells z.cells n ++ Builtin.zeroCells z.cells (grownCap w n 0 e - n)) e)) := by
  have hn : n ≠ 0 := by omega
  have hw : IntKind.i64.wrap (n : Int) = n := wi64 (by omega) (by omega)
  have h63' : ¬ (9223372036854775807 < (n : Int)) := by omega
  have h48' : ¬ (281474976710656 < Builtin.nextslicecap n 0 * x.bytes) := by rw [nextslicecap_zero h0]; omega
  have h48'' : ¬ (281474976710656 < (n : Int) * (x.bytes : Int)) := by
    have : (n : Int) * (x.bytes : Int) = ((n * x.bytes : Nat) : Int) := by simp
    omega
  simp [Builtin.append_, run_underlying ht, run_underlying hx, sizeOf, typeInfo, zeroValue, hi, hz, hw, h48'', hn, h63', h48', Question.forced, run_firstCells_none, newRow, grownCap, asInt, asIntOf]
  rw [if_neg (by omega), if_neg (by have := Nat.mul_pos h0 hs0; omega)]

theorem zeroCells_zrep {z : Value} {s : Nat} {zs : List Value} (hz : zs = z.cells.toList) (h5 : z.cells.size = s) (h6 : 0 < s) (n : Nat) : (Builtin.zeroCells z.cells n).toList = zrep zs n := by
  have hzl : zs.length = s := by rw [hz]; simpa using h5
  apply List.ext_getElem?
  intro j
  have hl : (Builtin.zeroCells z.cells n).toList.length = n * s := by simp [Builtin.zeroCells, h5]
  by_cases hj : j < n * s
  · rw [zrep_get zs (by omega) n j (by rw [hzl]; exact hj)]
    simp only [Builtin.zeroCells, hz, Array.getElem?_toList, h5, Array.length_toList]
    have hlt : j % s < z.cells.size := by rw [h5]; exact Nat.mod_lt _ h6
    simp [hj, getElem!_pos, hlt]
  · rw [List.getElem?_eq_none (by omega), List.getElem?_eq_none (by rw [zrep_length, hzl]; omega)]

/-- Zero elements appended to a slice of the call's own. -/
theorem run_append_zeros_own (base : Nat) (t tx ty e : TypeId) (x : TypeInfo) (z : Value) (k k' : IntKind) (ht : P.underlying t = some (.slice e)) (hx : P.underlying tx = some (.int k')) (hi : P.info? e = some x) (hz : x.zero = some z)
    (hzs : z.cells.size = x.size) (hsz : 0 < x.size) (h7 : 0 < x.bytes) (v : Value) (n : Nat) (xs : List Value) (hown : w.ownsRow base e x.size v n xs) (m : Nat) (h1 : ∀ u ∈ (Builtin.zeroCells z.cells m).toList, u.oneCell' = true)
    (hb : (n + m) * x.bytes ≤ 140737488355328) (hbase : base ≤ w.heap.size) :
    ∃ v' w', (Builtin.append_ #[t, tx] ty #[v, .int k m]).run P w = .ok v' w' ∧ (w'.ownsRow w.heap.size e x.size v' (n + m) (xs ++ (Builtin.zeroCells z.cells m).toList) ∨ ((∃ A c c', v = .slice A n c ∧ v' = .slice A (n + m) c') ∧ w'.ownsRow base e x.size v' (n + m) (xs ++ (Builtin.zeroCells z.cells m).toList))) ∧ w.grownBy w' v.ownBlock := by
  have hnm : n + m ≤ 140737488355328 := Nat.le_trans (Nat.le_mul_of_pos_right _ h7) hb
  have h63 : n + m ≤ maxLen := by unfold maxLen; omega
  have hmb : m * x.bytes ≤ 140737488355328 := Nat.le_trans (Nat.mul_le_mul_right _ (by omega)) hb
  have hw : IntKind.i64.wrap (m : Int) = m := wi64 (by omega) (by omega)
  have h48'' : ¬ (281474976710656 < (m : Int) * (x.bytes : Int)) := by
    have : (m : Int) * (x.bytes : Int) = ((m * x.bytes : Nat) : Int) := by simp
    omega
  have hneg : ¬ ((m : Int) < 0) := by omega
  generalize hnews : (Builtin.zeroCells z.cells m).toList = news at h1 ⊢
  have hl : news.length = m * x.size := by rw [← hnews]; simp [size_zeroCells, hzs]
  have hlen : (xs ++ news).length = (n + m) * x.size := by rw [List.length_append, hown.1, hl, Nat.add_mul]
  have hna : Builtin.zeroCells z.cells m = news.toArray := by rw [← hnews]
  have hms : m * x.size = 0 ↔ m = 0 := ⟨fun h => by rcases Nat.mul_eq_zero.1 h with h | h <;> omega, fun h => by rw [h, Nat.zero_mul]⟩
  have hwh : ∀ c, (if m * x.size = 0 then (#[] : Array Value) else c) = if m = 0 then #[] else c := fun c => by
    by_cases hm : m = 0
    · rw [if_pos (hms.2 hm), if_pos hm]
    · rw [if_neg (fun h => hm (hms.1 h)), if_neg hm]
  have grown : ∀ (old : Nat), old < n + m → ∀ (row : Option Nat),
      (w.drew.alloc (.cells (xs.toArray ++ news.toArray ++ Builtin.zeroCells z.cells (grownCap w (n + m) old e - (n + m))) e)).ownsRow w.heap.size e x.size
        (.slice (some ⟨w.heap.size, 0, none⟩) (n + m) (grownCap w (n + m) old e)) (n + m) (xs ++ news) ∧
      w.grownBy (w.drew.alloc (.cells (xs.toArray ++ news.toArray ++ Builtin.zeroCells z.cells (grownCap w (n + m) old e - (n + m))) e)) row := by
    intro old ho row
    have hge := grownCap_ge w (n + m) old e
    have hcm : grownCap w (n + m) old e ≤ maxLen := grownCap_le_maxLen w (n + m) old e h63
    refine ⟨⟨hlen, .inr ⟨w.heap.size, _, _, rfl, Nat.le_refl _, heap_alloc_new w.drew _, hge, hcm, ?_, ?_⟩⟩, ⟨rfl, rfl, rfl, by simp, fun k hk _ => heap_alloc_old w.drew _ hk⟩⟩
    · simp only [Array.size_append, List.size_toArray, size_zeroCells, hzs, hown.1, hl, ← Nat.add_mul]
      congr 1
      omega
    · simp only [Array.toList_append, List.append_assoc]
      rw [← List.append_assoc, ← hlen]
      exact List.take_left
  rcases hown.2 with ⟨rfl, rfl⟩ | ⟨g, cap, cur, rfl, hbg, hg, hnc, hcm, hcs, htake⟩
  · have hxn : xs = [] := List.eq_nil_of_length_eq_zero (by simpa using hown.1)
    subst hxn
    by_cases hm : m = 0
    · subst hm
      have hn : news = [] := List.eq_nil_of_length_eq_zero (by simpa using hl)
      subst hn
      refine ⟨.slice none 0 0, w, ?_, .inl (World.ownsRow_nil w w.heap.size e x.size), ⟨rfl, rfl, rfl, Nat.le_refl _, fun _ _ _ => rfl⟩⟩
      have hw0 : IntKind.i64.wrap (0 : Int) = 0 := wi64 (by omega) (by omega)
      simp [Builtin.append_, run_underlying ht, run_underlying hx, sizeOf, typeInfo, zeroValue, hi, hz, hw0, asInt, asIntOf, Question.forced, run_firstCells_none]
    · have hr := run_append_zeros_nil (P := P) w t tx ty e x z k k' ht hx hi hz m (by omega) hsz (by omega) (by omega)
      have hgr := grown 0 (by omega) (Value.ownBlock (.slice none 0 0))
      simp only [Nat.zero_add, List.nil_append, Array.empty_append] at hgr ⊢
      rw [← hna] at hgr
      exact ⟨_, _, hr, .inl hgr.1, hgr.2⟩
  · by_cases hroom : n + m ≤ cap
    · have hfit : n * x.size + news.length ≤ cur.size := by rw [hl, hcs, ← Nat.add_mul]; exact Nat.mul_le_mul_right _ hroom
      have hst := run_storeCells_at P g (n * x.size) e news 0 cur w hg (by simpa using hfit) h1
      simp only [Nat.add_zero] at hst
      have hr : (Builtin.append_ #[t, tx] ty #[.slice (some ⟨g, 0, none⟩) n cap, .int k m]).run P w = .ok (.slice (some ⟨g, 0, none⟩) (n + m) cap) (w.setRow g (cur.toList.take (n * x.size) ++ news ++ cur.toList.drop (n * x.size + news.length)).toArray) := by
        by_cases hm : m = 0
        · subst hm
          have hn : news = [] := List.eq_nil_of_length_eq_zero (by simpa using hl)
          subst hn
          have hw0 : IntKind.i64.wrap (0 : Int) = 0 := wi64 (by omega) (by omega)
          have hst' : (storeCells ⟨g, n * x.size, none⟩ [] 0).run P w = .ok () (w.setRow g (cur.toList.take (n * x.size) ++ [] ++ cur.toList.drop (n * x.size + ([] : List Value).length)).toArray) := hst
          simp [Builtin.append_, run_underlying ht, run_underlying hx, sizeOf, typeInfo, zeroValue, hi, hz, hw0, asInt, asIntOf, Question.forced, hnc, Addr.add_lit] at hst' ⊢
          rw [hst']
          rfl
        · simp [Builtin.append_, run_underlying ht, run_underlying hx, sizeOf, typeInfo, zeroValue, hi, hz, hw, h48'', hneg, asInt, asIntOf, Question.forced, hroom, Addr.add_lit, hna]
          rw [if_neg (by omega)]
          simp only [List.append_assoc] at hst
          simp [hst, hi, hz, hna]
      refine ⟨_, _, hr, .inr ⟨⟨_, _, _, rfl, rfl⟩, hlen, .inr ⟨g, cap, _, rfl, hbg, setRow_heap w g cur _ e _ hg, hroom, hcm, ?_, ?_⟩⟩, ⟨rfl, rfl, rfl, by simp, fun k _ hk => setRow_other w g k _ (fun e => hk (by simp [Value.ownBlock, e]))⟩⟩
      · simp only [List.size_toArray, List.length_append, List.length_take, List.length_drop, Array.length_toList]
        omega
      · rw [htake, ← hlen]
        exact List.take_left
    · have hm : m ≠ 0 := by omega
      have hgr := grown cap (by omega) (Value.ownBlock (.slice (some ⟨g, 0, none⟩) n cap))
      refine ⟨_, _, ?_, .inl hgr.1, hgr.2⟩
      have hn' : ¬ (n + m ≤ cap) := hroom
      have h63' : ¬ (9223372036854775807 < ((n : Int) + (m : Int))) := by omega
      have h48' : ¬ (281474976710656 < Builtin.nextslicecap (n + m) cap * x.bytes) := by have := growslice_fits (need := n + m) (old := cap) (bytes := x.bytes) (by omega) hb; omega
      have hfo := run_firstCells_some (P := P) w.drew x.size n ⟨g, 0, none⟩ n cap xs hown.1 (by simpa using hown.cells (g := g) rfl)
      simp [Builtin.append_, run_underlying ht, run_underlying hx, sizeOf, typeInfo, zeroValue, hi, hz, hw, h48'', hneg, asInt, asIntOf, Question.forced, hn', h63', h48', hfo, newRow, grownCap, hna]
      rw [if_neg (by omega)]
      simp [hi, hz, hna]
      congr 2
      apply Array.ext'
      simp [List.append_assoc]

/-- append(s, make([]T, n)...). -/
def azT (P : Program) (T : Tab) (o : Oper) : Option (Option Nat × Option (Nat × Nat × Nat) × Value × Int) :=
  match o.op with
  | .call { callee := .builtin .append, args := ⟨[x, y]⟩, argTypes := ⟨[t, t']⟩ } =>
    match P.underlying t, P.underlying t', evT T x, evT T y with
      | some (.slice e), some (.int _), some u, some (.int _ n) => some (o.dst, tyT P e, u, n)
      | _, _, _, _ => none
  | _ => none

theorem tyT_snd {e' e s b : Nat} (hty : tyT P e' = some (s, b, e)) : e' = e := by
  unfold tyT at hty
  split at hty
  · split at hty
    · split at hty
      · simp only [Option.some.injEq, Prod.mk.injEq] at hty; exact hty.2.2
      · cases hty
    · cases hty
  · cases hty

theorem wc_az {M : Nat → Prop} {w0 : World} {m : Mem} (H : Hp M w0 w m) (k : Nat) (d : Option Nat) {A : Option Addr} {n c : Nat} {xs : List Value} (mm e s by' : Nat) (zs : List Value)
    (hop' : ((opT N ops T i).bind (azT P T), fl i, zOf P e) = (some (d, some (s, by', e), .slice A n c, (mm : Int)), 3, zs)) (hm : m[k]? = some (.sl A n c xs e s)) (hfl : ∀ u ∈ zrep zs mm, u.oneCell' = true) (hb : (n + mm) * by' ≤ 140737488355328)
    (h : ∀ A' c' w', Hp M w0 w' (m.set k (.sl A' (n + mm) c' (xs ++ zrep zs mm) e s)) → WC P N ops Q fl rest (putT T d (.slice A' (n + mm) c')) w') : WC P N ops Q fl (.s i rest) T w := by
  simp only [Prod.mk.injEq] at hop'
  obtain ⟨hop, hf, hz⟩ := hop'
  obtain ⟨o, hq, h2⟩ := Option.bind_eq_some_iff.1 hop
  unfold azT at h2
  split at h2
  · rename_i x y t t' hox
    split at h2
    · rename_i e' k' u kk nn hu hu' hx hy
      simp only [Option.some.injEq, Prod.mk.injEq] at h2
      obtain ⟨rfl, hty, rfl, rfl⟩ := h2
      have he := tyT_snd hty
      subst he
      obtain ⟨xx, z, h1, h2, rfl, rfl, h5, h6, h7⟩ := tyT_spec hty
      have hz' : zs = z.cells.toList := by rw [← hz]; unfold zOf; simp [h1, h2]
      refine wc_heap hq (by rw [hf]; rfl) fun a ha => ?_
      obtain ⟨G, g1, -, -⟩ := H.upd hm
      have hzn := zeroCells_zrep (n := mm) hz' h5 h6
      obtain ⟨v', w', hrun, ho, hg⟩ := run_append_zeros_own (P := P) (w := w) 0 t t' o.type e' xx z kk k' hu hu' h1 h2 h5 h6 h7 (.slice A n c) n xs g1.1 mm (by rw [hzn]; exact hfl) hb (Nat.zero_le _)
      rw [hzn] at ho
      have hv : ∃ A' c', v' = .slice A' (n + mm) c' := by
        rcases ho with ho | ⟨⟨_, _, c', -, hv⟩, -⟩
        · rcases ho.2 with ⟨h, h'⟩ | ⟨g, cap, cur, h, -⟩
          · exact ⟨none, 0, by rw [h, h']⟩
          · exact ⟨_, _, h⟩
        · exact ⟨_, c', hv⟩
      obtain ⟨A', c', rfl⟩ := hv
      have H' : Hp M w0 w' (m.set k (.sl A' (n + mm) c' (xs ++ zrep zs mm) e' xx.size)) := grow_upd H hm (by
        rcases ho with ho | ⟨⟨B, b, d', e1, e2⟩, ho⟩
        · exact .inl ho
        · simp only [Value.slice.injEq] at e1 e2
          exact .inr ⟨by rw [e2.1, e1.1], ho⟩) hg
      have hrun' : (execOp a.eval o).run P w = .ok (.value (.slice A' (n + mm) c')) w' := by
        unfold execOp
        simp [hox, resolve, invoke, builtin, evT_spec ha hx, evT_spec ha hy, hrun]
      unfold operR
      rw [hrun']
      exact ⟨fun hh => by omega, h A' c' w' H' _ (ha.putT (opT_spec ha hq).2.1 _)⟩
    · cases h2
  · cases h2
end
end Go.Px
end
section
/-
  A rule of this seat's walks: bytes of a text that is converted to bytes. No condition beside those that stand in the theorem.
-/
set_option linter.all false
namespace Go.Px
open Go.RowKit

section
variable {P : Program} {N : FN} {ops : Array Oper} {Q : Exit → Act → World → Prop} {fl : FL} {T : Tab} {w : World} {i : Nat} {rest : OT}

end
end Go.Px
end
section
/-
  Maps from arrays of bytes to whole numbers: what is looked up, what is put in. No condition.
-/
set_option linter.all false
namespace Go.Px
open Go.RowKit

/-- The entries of a map, in the order in which they came. -/
def mEs : Nat → List (List Int × Int) → List MapEntry
  | _, [] => []
  | i, (k, v) :: r => { key := .agg (iv .u8 k).toArray, val := .int .i64 v, born := i } :: mEs (i + 1) r
def mObj (l : List (List Int × Int)) : Obj := .map (mEs 0 l).toArray l.length
/-- What a map has at a key. -/
def mLk (k : List Int) : List (List Int × Int) → Option Int
  | [] => none
  | (a, v) :: r => if k = a then some v else mLk k r

theorem mEs_append : ∀ (l r : List (List Int × Int)) (i : Nat), mEs i (l ++ r) = mEs i l ++ mEs (i + l.length) r
  | [], r, i => rfl
  | (k, v) :: l, r, i => by
    simp only [List.cons_append, mEs, mEs_append l r (i + 1), List.length_cons]
    rw [show i + 1 + l.length = i + (l.length + 1) by omega]
section
variable {P : Program}
theorem run_checkArr {K n : Nat} (h : arrB P K n = true) {ks : List Int} (hk : ks.length = n) (em : Bool) (w : World) : (Instr.checkKey em 10000 K (.agg (iv .u8 ks).toArray)).run P w = .ok () w := by
  unfold arrB at h
  split at h
  · rename_i m e hu
    simp only [Bool.and_eq_true] at h
    obtain ⟨⟨⟨⟨h1, h2⟩, h3⟩, h4⟩, h5⟩ := h
    have h1 := Nat.eq_of_beq_eq_true h1
    have h4 := Nat.eq_of_beq_eq_true h4
    subst h1
    split at h2
    · rename_i k' he
      obtain ⟨i, hi⟩ := Option.isSome_iff_exists.1 h3
      split at h5
      · rename_i b hb
        have hb : aggB P e = some false := by cases b <;> simp_all
        rw [show 10000 = 9999 + 1 from rfl, Instr.checkKey]
        simp only [Sem.run_bind, run_underlying hu, Result.andThen_ok]
        simp only [Std.Legacy.Range.forIn_eq_forIn_range', Std.Legacy.Range.size, Nat.sub_zero, Nat.add_one_sub_one, Nat.div_one]
        have key : ∀ c j, j + c = m → (forIn (m := Sem) (List.range' j c) PUnit.unit fun i _ => do
            let a ← part e (iv .u8 ks).toArray (i * (← sizeOf e))
            Instr.checkKey em 9999 e a
            pure (ForInStep.yield PUnit.unit)).run P w = .ok PUnit.unit w := by
          intro c
          induction c with
          | zero => intro j _; simp
          | succ c ih =>
            intro j hj
            have hg : (iv .u8 ks)[j * 1]? = some (.int .u8 (ks.getD j 0)) := by rw [Nat.mul_one]; exact iv_get (by omega)
            have hc : (Instr.checkKey em 9999 e (.int .u8 (ks.getD j 0))).run P w = .ok () w := by
              rw [show 9999 = 9998 + 1 from rfl, Instr.checkKey]
              simp [run_underlying he]
            have hp := run_part_iv (P := P) hb hg w
            rw [List.range'_succ, List.forIn_cons]
            simp only [Sem.run_bind, run_sizeOf w hi, h4, Result.andThen_ok, hp, hc, Sem.run_pure]
            exact ih (j + 1) (by omega)
        have := key m 0 (by omega)
        rw [this]; rfl
      · simp at h5
    · simp at h2
  · simp at h
theorem run_findArr {K n : Nat} (h : arrB P K n = true) {ks : List Int} (hk : ks.length = n) (w : World) : ∀ (l : List (List Int × Int)) (b i : Nat), (∀ p ∈ l, p.1.length = n) →
    (mLk ks l = none ∧ (Instr.findAsking K (.agg (iv .u8 ks).toArray) (mEs b l) i).run P w = .ok none w) ∨ ∃ j v, mLk ks l = some v ∧ (Instr.findAsking K (.agg (iv .u8 ks).toArray) (mEs b l) i).run P w = .ok (some (j, .int .i64 v)) w
  | [], b, i, _ => .inl ⟨rfl, by simp [mEs, Instr.findAsking]⟩
  | (a, v) :: l, b, i, hl => by
    have he := EqV.arrC h (k := .u8) ks a hk (hl (a, v) (by simp)) 9998 w
    have he : (Op.equal K (.agg (iv .u8 ks).toArray) (.agg (iv .u8 a).toArray)).run P w = .ok (decide (ks = a)) w := he
    by_cases e : ks = a
    · right
      subst e
      refine ⟨i, v, by simp [mLk], ?_⟩
      simp only [mEs, Instr.findAsking, Sem.run_bind, he, Result.andThen_ok, decide_true, if_true, Sem.run_pure]
    · have e' : decide (ks = a) = false := by simpa using e
      rcases run_findArr h hk w l (b + 1) (i + 1) (fun p hp => hl p (by simp [hp])) with ⟨h1, h2⟩ | ⟨j, v', h1, h2⟩
      · left
        refine ⟨by simp [mLk, e, h1], ?_⟩
        simp only [mEs, Instr.findAsking, Sem.run_bind, he, Result.andThen_ok, e', Bool.false_eq_true, if_false, h2]
      · right
        refine ⟨j, v', by simp [mLk, e, h1], ?_⟩
        simp only [mEs, Instr.findAsking, Sem.run_bind, he, Result.andThen_ok, e', Bool.false_eq_true, if_false, h2]
theorem run_findK {K n : Nat} (h : arrB P K n = true) (x : Value) (es : List MapEntry) (w : World) : (Instr.findKey K x es).run P w = (Instr.findAsking K x es).run P w := by
  rw [run_findKey_eq]
  unfold arrB at h
  split at h
  · rename_i hu; simp [hu]
  · simp at h

theorem run_mapLook {t K V n b : Nat} (ht : P.underlying t = some (.map K V)) (h : arrB P K n = true) (hz : ∀ w, (zeroValue V).run P w = .ok (.int .i64 0) w) {l : List (List Int × Int)} (hl : ∀ p ∈ l, p.1.length = n) {ks : List Int} (hk : ks.length = n) {w : World} (hb : w.heap[b]? = some (mObj l)) :
    (Instr.lookup t (.map (some b)) (.agg (iv .u8 ks).toArray) true).run P w = .ok (.tuple #[.int .i64 ((mLk ks l).getD 0), .bool (mLk ks l).isSome]) w := by
  have hc := run_checkArr (P := P) h hk (mEs 0 l).toArray.isEmpty w
  rcases run_findArr h hk w l 0 0 hl with ⟨h1, h2⟩ | ⟨j, v, h1, h2⟩
  · simp only [Instr.lookup, Sem.run_bind, run_underlying ht, Result.andThen_ok, MapKept.run_getObj_map hb, Sem.run_pure, hc, run_findK h, h2, hz, h1]
    rfl
  · simp only [Instr.lookup, Sem.run_bind, run_underlying ht, Result.andThen_ok, MapKept.run_getObj_map hb, Sem.run_pure, hc, run_findK h, h2, h1]
    rfl
theorem run_mapNew {t K V n b : Nat} (ht : P.underlying t = some (.map K V)) (h : arrB P K n = true) {l : List (List Int × Int)} (hl : ∀ p ∈ l, p.1.length = n) {ks : List Int} (hk : ks.length = n) (hn : mLk ks l = none) (v : Int) {w : World} (hb : w.heap[b]? = some (mObj l)) :
    (Instr.mapUpdate t (.map (some b)) (.agg (iv .u8 ks).toArray) (.int .i64 v)).run P w = .ok () { w with heap := w.heap.setIfInBounds b (mObj (l ++ [(ks, v)])) } := by
  have hc := run_checkArr (P := P) h hk false w
  rcases run_findArr h hk w l 0 0 hl with ⟨h1, h2⟩ | ⟨j, v', h1, h2⟩
  · simp only [Instr.mapUpdate, Sem.run_bind, run_underlying ht, Result.andThen_ok, MapKept.run_getObj_map hb, hc, run_findK h, h2, MapKept.run_setObj_map _ hb, mObj, mEs_append, mEs]
    simp
  · rw [hn] at h1; cases h1
theorem run_mapMake {t : Nat} (w : World) : (Instr.makeMap t none).run P w = .ok (.map (some w.heap.size)) { w with heap := w.heap.push (mObj []) } := rfl
end
end Go.Px
end
section
/-
  Cells told by their shape: values, runs of whole numbers, runs of records; parts of them and stores into them by computing. No condition.
-/
set_option linter.all false
namespace Go.Px
open Go.RowKit

/-- A value of one cell: as it is; a place in a known block; a slice of one. -/
inductive S0 where
  | xv (v : Value)
  | kb (b : Bool)
  | st (l : List Int)
  | pt (id off : Nat)
  | qt (id o i s o2 : Nat)
  | sc (id o n c : Nat) (t : Bool)
  | yl (id : Nat)
  | mv (id : Nat)

/-- Where a known block is. -/
inductive Ad where
  | bk (n : Nat)
  | ad (a : Option Addr)

def plc (E : List Ad) (id off : Nat) : Addr := match E[id]? with
  | some (.bk n) => ⟨n, off, none⟩
  | some (.ad a) => adr a off
  | none => ⟨0, off, none⟩
def bas (E : List Ad) (id o : Nat) : Option Addr := match E[id]? with
  | some (.bk n) => some ⟨n, o, none⟩
  | some (.ad a) => a
  | none => none

def bno (E : List Ad) (id : Nat) : Nat := match E[id]? with
  | some (.bk b) => b
  | _ => 0
theorem bno_ext {E X : List Ad} {id : Nat} (h : Nat.blt id E.length = true) : bno (E ++ X) id = bno E id := by
  have := Nat.blt_eq.mp h
  unfold bno; rw [List.getElem?_append_left this]
def S0.den (E : List Ad) : S0 → Value
  | .xv v => v
  | .kb b => .bool b
  | .st l => .string (strOfNums l)
  | .pt id off => .pointer (some (plc E id off))
  | .qt id o i s o2 => .pointer (some (plc E id (o + i * s + o2)))
  | .sc id o n c _ => .slice (bas E id o) n c
  | .yl id => .func (.yield (bno E id)) #[] #[]
  | .mv id => .map (some (bno E id))
def S0.ok : S0 → Bool
  | .xv v => v.oneCell'
  | _ => true
def S0.lt (n : Nat) : S0 → Bool
  | .xv _ => true
  | .kb _ => true
  | .st _ => true
  | .pt id _ => Nat.blt id n
  | .qt id _ _ _ _ => Nat.blt id n
  | .sc id _ _ _ _ => Nat.blt id n
  | .yl id => Nat.blt id n
  | .mv id => Nat.blt id n

theorem S0.one {E : List Ad} {x : S0} (h : x.ok = true) : (x.den E).oneCell' = true := by
  cases x <;> first | exact h | simp [S0.den, Value.oneCell']

theorem plc_ext {E X : List Ad} {id off : Nat} (h : Nat.blt id E.length = true) : plc (E ++ X) id off = plc E id off := by
  have := Nat.blt_eq.mp h
  unfold plc; rw [List.getElem?_append_left this]
theorem bas_ext {E X : List Ad} {id off : Nat} (h : Nat.blt id E.length = true) : bas (E ++ X) id off = bas E id off := by
  have := Nat.blt_eq.mp h
  unfold bas; rw [List.getElem?_append_left this]
theorem S0.ext {E X : List Ad} {x : S0} (h : x.lt E.length = true) : x.den (E ++ X) = x.den E := by
  cases x with
  | xv v => rfl
  | kb b => rfl
  | st l => rfl
  | pt id off => simp only [S0.den, plc_ext h]
  | qt id o i s o2 => simp only [S0.den, plc_ext h]
  | sc id o n c t => simp only [S0.den, bas_ext h]
  | yl id => simp only [S0.den, bno_ext h]
  | mv id => simp only [S0.den, bno_ext h]

/-- A part of a row of cells. -/
inductive Sg0 where
  | cl (x : S0)
  | iz (k : IntKind) (l : List Int) (n : Nat)

def Sg0.den (E : List Ad) : Sg0 → List Value
  | .cl x => [x.den E]
  | .iz k l _ => iv k l
def Sg0.n : Sg0 → Nat
  | .cl _ => 1
  | .iz _ _ n => n
def Sg0.wf : Sg0 → Prop
  | .cl _ => True
  | .iz _ l n => l.length = n
def Sg0.ok (N : Nat) : Sg0 → Bool
  | .cl x => x.ok && x.lt N
  | .iz .. => true

def c0den (E : List Ad) : List Sg0 → List Value
  | [] => []
  | s :: c => s.den E ++ c0den E c
def c0n : List Sg0 → Nat
  | [] => 0
  | s :: c => s.n + c0n c
def c0wf : List Sg0 → Prop
  | [] => True
  | s :: c => s.wf ∧ c0wf c
def c0ok (N : Nat) : List Sg0 → Bool
  | [] => true
  | s :: c => s.ok N && c0ok N c

theorem Sg0.len {E : List Ad} {s : Sg0} (h : s.wf) : (s.den E).length = s.n := by
  cases s with
  | cl x => rfl
  | iz k l n => simpa [Sg0.den, Sg0.n, Sg0.wf, iv_length] using h
theorem c0len {E : List Ad} : ∀ {c : List Sg0}, c0wf c → (c0den E c).length = c0n c
  | [], _ => rfl
  | s :: c, h => by simp [c0den, c0n, Sg0.len h.1, c0len h.2]
theorem c0den_append {E : List Ad} : ∀ (a b : List Sg0), c0den E (a ++ b) = c0den E a ++ c0den E b
  | [], b => rfl
  | s :: a, b => by simp [c0den, c0den_append a b]
theorem c0wf_append : ∀ {a b : List Sg0}, c0wf (a ++ b) ↔ c0wf a ∧ c0wf b
  | [], b => by simp [c0wf]
  | s :: a, b => by simp [c0wf, c0wf_append (a := a), and_assoc]
theorem c0ok_append {N : Nat} : ∀ {a b : List Sg0}, c0ok N (a ++ b) = true ↔ c0ok N a = true ∧ c0ok N b = true
  | [], b => by simp [c0ok]
  | s :: a, b => by simp [c0ok, c0ok_append (a := a), and_assoc]
theorem c0n_append : ∀ (a b : List Sg0), c0n (a ++ b) = c0n a + c0n b
  | [], b => by simp [c0n]
  | s :: a, b => by simp [c0n, c0n_append a b, Nat.add_assoc]
theorem Sg0.flat {E : List Ad} {N : Nat} {s : Sg0} (h : s.ok N = true) : ∀ u ∈ s.den E, u.oneCell' = true := by
  cases s with
  | cl x =>
    intro u hu
    simp only [Sg0.den, List.mem_singleton] at hu
    subst hu
    simp only [Sg0.ok, Bool.and_eq_true] at h
    exact S0.one h.1
  | iz k l n => exact iv_flat k l
theorem c0flat {E : List Ad} {N : Nat} : ∀ {c : List Sg0}, c0ok N c = true → ∀ u ∈ c0den E c, u.oneCell' = true
  | [], _, u, hu => by simp [c0den] at hu
  | s :: c, h, u, hu => by
    simp only [c0ok, Bool.and_eq_true] at h
    simp only [c0den, List.mem_append] at hu
    rcases hu with hu | hu
    · exact Sg0.flat h.1 u hu
    · exact c0flat h.2 u hu
theorem Sg0.ext {E X : List Ad} {s : Sg0} (h : s.ok E.length = true) : s.den (E ++ X) = s.den E := by
  cases s with
  | cl x =>
    simp only [Sg0.ok, Bool.and_eq_true] at h
    simp only [Sg0.den, S0.ext h.2]
  | iz k l n => rfl
theorem c0ext {E X : List Ad} : ∀ {c : List Sg0}, c0ok E.length c = true → c0den (E ++ X) c = c0den E c
  | [], _ => rfl
  | s :: c, h => by
    simp only [c0ok, Bool.and_eq_true] at h
    simp only [c0den, Sg0.ext h.1, c0ext h.2]
theorem S0.lt_mono {n m : Nat} {x : S0} (h : x.lt n = true) (hm : n ≤ m) : x.lt m = true := by
  cases x <;> first | rfl | (simp only [S0.lt] at h ⊢; have := Nat.blt_eq.mp h; exact Nat.blt_eq.mpr (by omega))
theorem Sg0.ok_mono {n m : Nat} {s : Sg0} (h : s.ok n = true) (hm : n ≤ m) : s.ok m = true := by
  cases s with
  | cl x =>
    simp only [Sg0.ok, Bool.and_eq_true] at h ⊢
    exact ⟨h.1, S0.lt_mono h.2 hm⟩
  | iz k l n => rfl
theorem c0ok_mono {n m : Nat} (hm : n ≤ m) : ∀ {c : List Sg0}, c0ok n c = true → c0ok m c = true
  | [], _ => rfl
  | s :: c, h => by
    simp only [c0ok, Bool.and_eq_true] at h ⊢
    exact ⟨Sg0.ok_mono h.1 hm, c0ok_mono hm h.2⟩

/-! ### Parts -/
def Sg0.part : Sg0 → Nat → Nat → Option (List Sg0)
  | .cl x, o, n => bif Nat.beq o 0 && Nat.beq n 1 then some [.cl x] else none
  | .iz k l m, o, n =>
    bif Nat.beq o 0 && Nat.beq n m then some [.iz k l m]
    else bif Nat.ble (o + n) m then (bif Nat.beq n 1 then some [.cl (.xv (.int k (l.getD o 0)))] else some [.iz k ((l.drop o).take n) n]) else none

theorem beq_n {a b : Nat} (h : Nat.beq a b = true) : a = b := Nat.eq_of_beq_eq_true h
theorem take_one {l : List Value} {o : Nat} {v : Value} (h : l[o]? = some v) : (l.drop o).take 1 = [v] := by
  obtain ⟨h1, h2⟩ := List.getElem?_eq_some_iff.1 h
  rw [List.drop_eq_getElem_cons h1]; simp [h2]

theorem Sg0.part_spec {E : List Ad} {N : Nat} {s : Sg0} {o n : Nat} {c : List Sg0} (h : s.part o n = some c) (hw : s.wf) (hk : s.ok N = true) :
    ((s.den E).drop o).take n = c0den E c ∧ c0wf c ∧ c0ok N c = true ∧ c0n c = n ∧ o + n ≤ s.n := by
  cases s with
  | cl x =>
    simp only [Sg0.part, cond_eq_ite] at h
    split at h
    · rename_i hc
      simp only [Bool.and_eq_true] at hc
      have h1 := beq_n hc.1; have h2 := beq_n hc.2
      subst h1 h2
      simp only [Option.some.injEq] at h; subst h
      exact ⟨rfl, ⟨trivial, trivial⟩, by simp [c0ok, hk], rfl, Nat.le_refl _⟩
    · cases h
  | iz k l m =>
    simp only [Sg0.wf] at hw
    simp only [Sg0.part, cond_eq_ite] at h
    split at h
    · rename_i hc
      simp only [Bool.and_eq_true] at hc
      have h1 := beq_n hc.1; have h2 := beq_n hc.2
      subst h1 h2
      simp only [Option.some.injEq] at h; subst h
      refine ⟨?_, ⟨hw, trivial⟩, rfl, rfl, by simp [Sg0.n]⟩
      simp only [Sg0.den, c0den, List.drop_zero, List.append_nil]
      exact List.take_of_length_le (by rw [iv_length]; omega)
    · split at h
      · rename_i hc
        have hc := Nat.le_of_ble_eq_true hc
        split at h
        · rename_i h1
          have h1 := beq_n h1
          subst h1
          simp only [Option.some.injEq] at h; subst h
          refine ⟨?_, ⟨trivial, trivial⟩, rfl, rfl, hc⟩
          exact take_one (iv_get (by omega))
        · simp only [Option.some.injEq] at h; subst h
          refine ⟨?_, ⟨by simp [Sg0.wf]; omega, trivial⟩, rfl, rfl, hc⟩
          simp [Sg0.den, c0den, iv, List.map_drop, List.map_take]
      · cases h

def c0sub : List Sg0 → Nat → Nat → Option (List Sg0)
  | [], _, _ => none
  | s :: c, o, n =>
    bif Nat.beq o 0 && Nat.beq s.n n then some [s]
    else match o with
    | 0 => bif Nat.ble n s.n then s.part 0 n else (c0sub c 0 (n - s.n)).map (s :: ·)
    | o + 1 => bif Nat.ble s.n (o + 1) then c0sub c (o + 1 - s.n) n else s.part (o + 1) n

theorem drop_take_left {a b : List Value} {o n : Nat} (h : o + n ≤ a.length) : ((a ++ b).drop o).take n = (a.drop o).take n := by
  rw [List.drop_append_of_le_length (by omega), List.take_append_of_le_length (by simp; omega)]
theorem drop_take_right {a b : List Value} {o n : Nat} (h : a.length ≤ o) : ((a ++ b).drop o).take n = (b.drop (o - a.length)).take n := by
  rw [List.drop_append, List.drop_of_length_le h, List.nil_append]

theorem c0sub_spec {E : List Ad} {N : Nat} : ∀ {c : List Sg0} {o n : Nat} {r : List Sg0}, c0sub c o n = some r → c0wf c → c0ok N c = true →
    ((c0den E c).drop o).take n = c0den E r ∧ c0wf r ∧ c0ok N r = true ∧ c0n r = n ∧ o + n ≤ c0n c
  | [], _, _, _, h, _, _ => by simp [c0sub] at h
  | s :: c, o, n, r, h, hw, hk => by
    simp only [c0ok, Bool.and_eq_true] at hk
    have hl := Sg0.len (E := E) hw.1
    have hl2 := c0len (E := E) hw.2
    simp only [c0sub, cond_eq_ite] at h
    split at h
    · rename_i hc
      simp only [Bool.and_eq_true] at hc
      have h1 := beq_n hc.1; have h2 := beq_n hc.2
      subst h1 h2
      simp only [Option.some.injEq] at h; subst h
      refine ⟨?_, ⟨hw.1, trivial⟩, by simp [c0ok, hk.1], by simp [c0n], by simp [c0n]⟩
      simp only [c0den, List.drop_zero, List.append_nil]
      rw [← hl, List.take_append_of_le_length (Nat.le_refl _), List.take_length]
    · split at h
      · split at h
        · obtain ⟨g1, g2, g3, g4, g5⟩ := Sg0.part_spec (E := E) h hw.1 hk.1
          refine ⟨?_, g2, g3, g4, by simp [c0n]; omega⟩
          rw [c0den, drop_take_left (by omega)]; exact g1
        · rename_i hc
          have hc : s.n < n := by
            rcases Nat.lt_or_ge s.n n with h' | h'
            · exact h'
            · exact absurd (Nat.ble_eq.mpr h') hc
          obtain ⟨r', hr, rfl⟩ := Option.map_eq_some_iff.1 h
          obtain ⟨g1, g2, g3, g4, g5⟩ := c0sub_spec hr hw.2 hk.2
          refine ⟨?_, ⟨hw.1, g2⟩, by simp [c0ok, hk.1, g3], by simp [c0n, g4]; omega, by simp [c0n]; omega⟩
          simp only [c0den, List.drop_zero] at g1 ⊢
          rw [← g1, List.take_append, List.take_of_length_le (by omega), hl]
      · rename_i o
        split at h
        · rename_i hc
          have hc := Nat.le_of_ble_eq_true hc
          obtain ⟨g1, g2, g3, g4, g5⟩ := c0sub_spec h hw.2 hk.2
          refine ⟨?_, g2, g3, g4, by simp [c0n]; omega⟩
          rw [c0den, drop_take_right (by omega), hl]; exact g1
        · obtain ⟨g1, g2, g3, g4, g5⟩ := Sg0.part_spec (E := E) h hw.1 hk.1
          refine ⟨?_, g2, g3, g4, by simp [c0n]; omega⟩
          rw [c0den, drop_take_left (by omega)]; exact g1

/-! ### Stores -/
def Sg0.putp : Sg0 → Nat → List Sg0 → Option Sg0
  | .iz k l m, o, [.cl (.xv (.int k' x))] => bif decide (k = k') && Nat.blt o m then some (.iz k (l.set o x) m) else none
  | .iz k l m, o, [.iz k' l' n] => bif decide (k = k') && Nat.ble (o + n) m then some (.iz k (l.take o ++ (l' ++ l.drop (o + n))) m) else none
  | _, _, _ => none

theorem Sg0.putp_spec {E : List Ad} {N : Nat} {s s' : Sg0} {o : Nat} {v : List Sg0} (h : s.putp o v = some s') (hw : s.wf) (hv : c0wf v) :
    s'.den E = blit (s.den E) o (c0den E v) ∧ s'.wf ∧ s'.ok N = true ∧ s'.n = s.n ∧ o + c0n v ≤ s.n := by
  unfold Sg0.putp at h
  split at h
  · rename_i k l m k' x
    simp only [cond_eq_ite] at h
    split at h
    · rename_i hc
      simp only [Bool.and_eq_true, decide_eq_true_eq] at hc
      obtain ⟨rfl, hc⟩ := hc
      have hc := Nat.blt_eq.mp hc
      simp only [Option.some.injEq] at h; subst h
      simp only [Sg0.wf] at hw
      refine ⟨?_, by simpa [Sg0.wf] using hw, rfl, rfl, by simp [c0n, Sg0.n]; omega⟩
      simp only [Sg0.den, c0den, S0.den, List.append_nil]
      exact (iv_set k l _ x (by omega)).symm
    · cases h
  · rename_i k l m k' l' n
    simp only [cond_eq_ite] at h
    split at h
    · rename_i hc
      simp only [Bool.and_eq_true, decide_eq_true_eq] at hc
      obtain ⟨rfl, hc⟩ := hc
      have hc := Nat.le_of_ble_eq_true hc
      simp only [Option.some.injEq] at h; subst h
      simp only [Sg0.wf] at hw
      have hv' : l'.length = n := hv.1
      refine ⟨?_, by simp [Sg0.wf]; omega, rfl, rfl, by simp [c0n, Sg0.n]; omega⟩
      simp only [Sg0.den, c0den, List.append_nil, blit, iv_length]
      simp [iv, List.map_drop, List.map_take, hv']
    · cases h
  · cases h

def c0drop : List Sg0 → Nat → Option (List Sg0)
  | c, 0 => some c
  | [], _ + 1 => none
  | s :: c, n + 1 => bif Nat.ble s.n (n + 1) && Nat.ble 1 s.n then c0drop c (n + 1 - s.n) else none

theorem c0drop_spec {E : List Ad} {N : Nat} : ∀ {c : List Sg0} {n : Nat} {r : List Sg0}, c0drop c n = some r → c0wf c → c0ok N c = true →
    c0den E r = (c0den E c).drop n ∧ c0wf r ∧ c0ok N r = true ∧ c0n r + n = c0n c
  | c, 0, r, h, hw, hk => by
    have : c = r := by cases c <;> simpa [c0drop] using h
    subst this
    exact ⟨by simp, hw, hk, by simp⟩
  | [], n + 1, r, h, _, _ => by simp [c0drop] at h
  | s :: c, n + 1, r, h, hw, hk => by
    simp only [c0ok, Bool.and_eq_true] at hk
    simp only [c0drop, cond_eq_ite] at h
    split at h
    · rename_i hc
      simp only [Bool.and_eq_true] at hc
      have hc := Nat.le_of_ble_eq_true hc.1
      obtain ⟨g1, g2, g3, g4⟩ := c0drop_spec (E := E) h hw.2 hk.2
      have hl := Sg0.len (E := E) hw.1
      refine ⟨?_, g2, g3, by simp [c0n]; omega⟩
      rw [g1, c0den, List.drop_append, show (s.den E).drop (n + 1) = [] from List.drop_of_length_le (by omega), List.nil_append, hl]
    · cases h

def c0put : List Sg0 → Nat → List Sg0 → Option (List Sg0)
  | [], _, _ => none
  | s :: c, 0, v => bif Nat.ble s.n (c0n v) then (c0drop (s :: c) (c0n v)).map (v ++ ·) else (s.putp 0 v).map (· :: c)
  | s :: c, o + 1, v => bif Nat.ble s.n (o + 1) then (c0put c (o + 1 - s.n) v).map (s :: ·) else (s.putp (o + 1) v).map (· :: c)

theorem blit_left {a b v : List Value} {o : Nat} (h : o + v.length ≤ a.length) : blit (a ++ b) o v = blit a o v ++ b := by
  simp only [blit]
  rw [List.take_append_of_le_length (by omega), List.drop_append_of_le_length (by omega)]
  simp
theorem blit_right {a b v : List Value} {o : Nat} (h : a.length ≤ o) : blit (a ++ b) o v = a ++ blit b (o - a.length) v := by
  simp only [blit]
  rw [List.take_append, List.take_of_length_le h, List.drop_append, List.drop_of_length_le (by omega)]
  simp only [List.nil_append, List.append_assoc]
  congr 3
  congr 1; omega

theorem c0put_spec {E : List Ad} {N : Nat} : ∀ {c : List Sg0} {o : Nat} {v r : List Sg0}, c0put c o v = some r → c0wf c → c0ok N c = true → c0wf v → c0ok N v = true →
    c0den E r = blit (c0den E c) o (c0den E v) ∧ c0wf r ∧ c0ok N r = true ∧ c0n r = c0n c ∧ o + c0n v ≤ c0n c
  | [], o, v, r, h, _, _, _, _ => by simp [c0put] at h
  | s :: c, 0, v, r, h, hw, hk, hv, hvk => by
    have hvl := c0len (E := E) hv
    simp only [c0put, cond_eq_ite] at h
    split at h
    · obtain ⟨r', hr, rfl⟩ := Option.map_eq_some_iff.1 h
      obtain ⟨g1, g2, g3, g4⟩ := c0drop_spec (E := E) hr hw hk
      refine ⟨?_, c0wf_append.2 ⟨hv, g2⟩, c0ok_append.2 ⟨hvk, g3⟩, by rw [c0n_append]; omega, by omega⟩
      rw [c0den_append, g1, blit, hvl]
      simp
    · obtain ⟨s', hs, rfl⟩ := Option.map_eq_some_iff.1 h
      simp only [c0ok, Bool.and_eq_true] at hk ⊢
      obtain ⟨g1, g2, g3, g4, g5⟩ := Sg0.putp_spec (E := E) (N := N) hs hw.1 hv
      refine ⟨?_, ⟨g2, hw.2⟩, ⟨g3, hk.2⟩, by simp [c0n, g4], by simp [c0n]; omega⟩
      rw [c0den, c0den, g1, blit_left (by rw [Sg0.len hw.1, hvl]; omega)]
  | s :: c, o + 1, v, r, h, hw, hk, hv, hvk => by
    have hvl := c0len (E := E) hv
    simp only [c0put, cond_eq_ite] at h
    simp only [c0ok, Bool.and_eq_true] at hk ⊢
    split at h
    · rename_i hc
      have hc := Nat.le_of_ble_eq_true hc
      obtain ⟨r', hr, rfl⟩ := Option.map_eq_some_iff.1 h
      obtain ⟨g1, g2, g3, g4, g5⟩ := c0put_spec (E := E) hr hw.2 hk.2 hv hvk
      refine ⟨?_, ⟨hw.1, g2⟩, by simp [c0ok, hk.1, g3], by simp [c0n, g4], by simp [c0n]; omega⟩
      rw [c0den, c0den, g1, blit_right (by rw [Sg0.len hw.1]; omega), Sg0.len hw.1]
    · obtain ⟨s', hs, rfl⟩ := Option.map_eq_some_iff.1 h
      obtain ⟨g1, g2, g3, g4, g5⟩ := Sg0.putp_spec (E := E) (N := N) hs hw.1 hv
      refine ⟨?_, ⟨g2, hw.2⟩, by simp [c0ok, hk.2, g3], by simp [c0n, g4], by simp [c0n]; omega⟩
      rw [c0den, c0den, g1, blit_left (by rw [Sg0.len hw.1, hvl]; omega)]
end Go.Px
end
section
/-
  Rows with runs of records; pieces of memory, tables and states that are told by their shape, and what they stand for. No condition.
-/
set_option linter.all false
namespace Go.Px
open Go.RowKit

/-- A part of a record at hand: cells, or a slice of numbers that is at hand. -/
inductive DC where
  | c (s : Sg0)
  | d (A : Option Addr) (k : IntKind) (l : List Int) (cap : Nat)
def DC.den : DC → List Value
  | .c s => s.den []
  | .d A _ l cap => [.slice A l.length cap]
def dcden : List DC → List Value
  | [] => []
  | x :: r => x.den ++ dcden r
def dcwf : List DC → Prop
  | [] => True
  | .c s :: r => s.wf ∧ dcwf r
  | .d .. :: r => dcwf r
/-- A form of records; those that are deep hold slices of numbers. -/
structure Fm where
  α : Type
  sg : α → List Sg0
  sz : Nat
  d : α
  of : List Sg0 → Option α
  wf : α → Prop
  hd : wf d
  hsz : ∀ a, c0n (sg a) = sz
  hok : ∀ a, c0ok 0 (sg a) = true
  hwf : ∀ a, wf a ↔ c0wf (sg a)
  hmk : ∀ l a, of l = some a → sg a = l
  pos : 0 < sz
  deep : Bool := false
  inn : α → Nat → Option (Option Addr × IntKind × List Int) := fun _ _ => none
  hdp : deep = false → ∀ a o, inn a o = none := by intros; rfl
  hin : ∀ a o A k l, inn a o = some (A, k, l) → ∃ cap, (c0den [] (sg a))[o]? = some (.slice A l.length cap) := by intro a o A k l h; cases h
  ofD : List DC → Option α := fun _ => none
  hofD : ∀ ds a, ofD ds = some a → dcden ds = c0den [] (sg a) ∧ (dcwf ds → wf a) ∧ ∀ o A k l, inn a o = some (A, k, l) → ∃ cap, DC.d A k l cap ∈ ds := by intro ds a h; cases h
  kds : Option (List CK) := none
  hkd : ∀ ks, kds = some ks → ∀ a, wf a → (c0den [] (sg a)).map kd = ks.map some := by intro ks h; cases h
  dec : Option (DecidableEq α) := none
  hdec : dec.isSome = true → ∀ a b, wf a → wf b → c0den [] (sg a) = c0den [] (sg b) → a = b := by intro h; cases h

section
variable {FM : Nat → Fm}

inductive Sg (FM : Nat → Fm) where
  | b (s : Sg0)
  | f (j : Nat) (l : List (FM j).α) (n : Nat)

def fden (F : Fm) : List F.α → List Value
  | [] => []
  | a :: l => c0den [] (F.sg a) ++ fden F l
def Sg.den (E : List Ad) : Sg FM → List Value
  | .b s => s.den E
  | .f j l _ => fden (FM j) l
def Sg.n : Sg FM → Nat
  | .b s => s.n
  | .f j _ n => n * (FM j).sz
def Sg.wf : Sg FM → Prop
  | .b s => s.wf
  | .f j l n => l.length = n ∧ ∀ a ∈ l, (FM j).wf a
def Sg.ok (N : Nat) : Sg FM → Bool
  | .b s => s.ok N
  | .f .. => true

abbrev Ce (FM : Nat → Fm) := List (Sg FM)
def cden (E : List Ad) : Ce FM → List Value
  | [] => []
  | s :: c => s.den E ++ cden E c
def cn : Ce FM → Nat
  | [] => 0
  | s :: c => s.n + cn c
def cwf : Ce FM → Prop
  | [] => True
  | s :: c => s.wf ∧ cwf c
def cok (N : Nat) : Ce FM → Bool
  | [] => true
  | s :: c => s.ok N && cok N c

theorem fm_den0 {F : Fm} {a : F.α} {E : List Ad} : c0den E (F.sg a) = c0den [] (F.sg a) := by
  have := c0ext (E := []) (X := E) (F.hok a)
  simpa using this
theorem fden_length {F : Fm} : ∀ {l : List F.α}, (∀ a ∈ l, F.wf a) → (fden F l).length = l.length * F.sz
  | [], _ => by simp [fden]
  | a :: l, h => by
    have h1 := c0len (E := []) ((F.hwf a).1 (h a (by simp)))
    have h2 := fden_length (F := F) (l := l) (fun b hb => h b (by simp [hb]))
    simp only [fden, List.length_append, h1, h2, F.hsz, List.length_cons, Nat.succ_mul]
    omega
theorem fden_append {F : Fm} : ∀ (a b : List F.α), fden F (a ++ b) = fden F a ++ fden F b
  | [], b => rfl
  | x :: a, b => by simp [fden, fden_append a b]
theorem fden_flat {F : Fm} : ∀ {l : List F.α}, ∀ u ∈ fden F l, u.oneCell' = true
  | [], u, hu => by simp [fden] at hu
  | a :: l, u, hu => by
    simp only [fden, List.mem_append] at hu
    rcases hu with hu | hu
    · exact c0flat (F.hok a) u hu
    · exact fden_flat u hu
theorem Sg.len {E : List Ad} {s : Sg FM} (h : s.wf) : (s.den E).length = s.n := by
  cases s with
  | b s => exact Sg0.len h
  | f j l n =>
    obtain ⟨h1, h2⟩ := h
    simp only [Sg.den, Sg.n, fden_length h2, h1]
theorem clen {E : List Ad} : ∀ {c : Ce FM}, cwf c → (cden E c).length = cn c
  | [], _ => rfl
  | s :: c, h => by simp [cden, cn, Sg.len h.1, clen h.2]
theorem cden_append {E : List Ad} : ∀ (a b : Ce FM), cden E (a ++ b) = cden E a ++ cden E b
  | [], b => rfl
  | s :: a, b => by simp [cden, cden_append a b]
theorem cwf_append : ∀ {a b : Ce FM}, cwf (a ++ b) ↔ cwf a ∧ cwf b
  | [], b => by simp [cwf]
  | s :: a, b => by simp [cwf, cwf_append (a := a), and_assoc]
theorem cok_append {N : Nat} : ∀ {a b : Ce FM}, cok N (a ++ b) = true ↔ cok N a = true ∧ cok N b = true
  | [], b => by simp [cok]
  | s :: a, b => by simp [cok, cok_append (a := a), and_assoc]
theorem cn_append : ∀ (a b : Ce FM), cn (a ++ b) = cn a + cn b
  | [], b => by simp [cn]
  | s :: a, b => by simp [cn, cn_append a b, Nat.add_assoc]
theorem Sg.flat {E : List Ad} {N : Nat} {s : Sg FM} (h : s.ok N = true) : ∀ u ∈ s.den E, u.oneCell' = true := by
  cases s with
  | b s => exact Sg0.flat h
  | f j l n => exact fden_flat
theorem cflat {E : List Ad} {N : Nat} : ∀ {c : Ce FM}, cok N c = true → ∀ u ∈ cden E c, u.oneCell' = true
  | [], _, u, hu => by simp [cden] at hu
  | s :: c, h, u, hu => by
    simp only [cok, Bool.and_eq_true] at h
    simp only [cden, List.mem_append] at hu
    rcases hu with hu | hu
    · exact Sg.flat h.1 u hu
    · exact cflat h.2 u hu
theorem Sg.ext {E X : List Ad} {s : Sg FM} (h : s.ok E.length = true) : s.den (E ++ X) = s.den E := by
  cases s with
  | b s => exact Sg0.ext h
  | f j l n => rfl
theorem cext {E X : List Ad} : ∀ {c : Ce FM}, cok E.length c = true → cden (E ++ X) c = cden E c
  | [], _ => rfl
  | s :: c, h => by
    simp only [cok, Bool.and_eq_true] at h
    simp only [cden, Sg.ext h.1, cext h.2]
theorem cok_mono {n m : Nat} (hm : n ≤ m) : ∀ {c : Ce FM}, cok n c = true → cok m c = true
  | [], _ => rfl
  | .b s :: c, h => by
    simp only [cok, Sg.ok, Bool.and_eq_true] at h ⊢
    exact ⟨Sg0.ok_mono h.1 hm, cok_mono hm h.2⟩
  | .f j l n :: c, h => by
    simp only [cok, Sg.ok, Bool.true_and] at h ⊢
    exact cok_mono hm h

def up0 (c : List Sg0) : Ce FM := c.map .b
theorem up0_den {E : List Ad} : ∀ (c : List Sg0), cden E (up0 (FM := FM) c) = c0den E c
  | [] => rfl
  | s :: c => by have := up0_den (E := E) c; simp only [up0, List.map_cons, cden, c0den, Sg.den] at this ⊢; rw [this]
theorem up0_wf : ∀ {c : List Sg0}, c0wf c → cwf (up0 (FM := FM) c)
  | [], _ => trivial
  | s :: c, h => ⟨h.1, up0_wf h.2⟩
theorem up0_ok {N : Nat} : ∀ {c : List Sg0}, c0ok N c = true → cok N (up0 (FM := FM) c) = true
  | [], _ => rfl
  | s :: c, h => by
    simp only [c0ok, Bool.and_eq_true] at h
    simp only [up0, List.map_cons, cok, Sg.ok, Bool.and_eq_true]
    exact ⟨h.1, up0_ok h.2⟩
theorem up0_n : ∀ (c : List Sg0), cn (up0 (FM := FM) c) = c0n c
  | [] => rfl
  | s :: c => by have := up0_n c; simp only [up0, List.map_cons, cn, c0n, Sg.n] at this ⊢; rw [this]
def dn0 : Ce FM → Option (List Sg0)
  | [] => some []
  | .b s :: c => (dn0 c).map (s :: ·)
  | .f .. :: _ => none
theorem dn0_spec : ∀ {c : Ce FM} {c0 : List Sg0}, dn0 c = some c0 → c = up0 c0
  | [], c0, h => by simp [dn0] at h; subst h; rfl
  | .b s :: c, c0, h => by
    simp only [dn0] at h
    obtain ⟨r, hr, rfl⟩ := Option.map_eq_some_iff.1 h
    rw [dn0_spec hr]; rfl
  | .f .. :: _, _, h => by simp [dn0] at h
theorem up0_wf' : ∀ {c : List Sg0}, cwf (up0 (FM := FM) c) → c0wf c
  | [], _ => trivial
  | s :: c, h => ⟨h.1, up0_wf' h.2⟩
theorem up0_ok' {N : Nat} : ∀ {c : List Sg0}, cok N (up0 (FM := FM) c) = true → c0ok N c = true
  | [], _ => rfl
  | s :: c, h => by
    simp only [up0, List.map_cons, cok, Sg.ok, Bool.and_eq_true] at h
    simp only [c0ok, Bool.and_eq_true]
    exact ⟨h.1, up0_ok' h.2⟩

/-! ### One record of a run -/
theorem fden_get {F : Fm} : ∀ {l : List F.α} {i : Nat}, (∀ a ∈ l, F.wf a) → i < l.length →
    ((fden F l).drop (i * F.sz)).take F.sz = c0den [] (F.sg (l.getD i F.d)) ∧ F.wf (l.getD i F.d)
  | [], i, _, h => by simp at h
  | a :: l, 0, hw, _ => by
    have h1 := c0len (E := []) ((F.hwf a).1 (hw a (by simp)))
    rw [F.hsz] at h1
    simp only [fden, Nat.zero_mul, List.drop_zero, List.getD_cons_zero]
    exact ⟨by rw [← h1, List.take_append_of_le_length (Nat.le_refl _), List.take_length], hw a (by simp)⟩
  | a :: l, i + 1, hw, h => by
    have h1 := c0len (E := []) ((F.hwf a).1 (hw a (by simp)))
    rw [F.hsz] at h1
    obtain ⟨g1, g2⟩ := fden_get (F := F) (l := l) (i := i) (fun b hb => hw b (by simp [hb])) (by simpa using h)
    simp only [fden, List.getD_cons_succ, Nat.succ_mul]
    refine ⟨?_, g2⟩
    rw [List.drop_append, show (c0den [] (F.sg a)).drop (i * F.sz + F.sz) = [] from List.drop_of_length_le (by omega), List.nil_append, h1, show i * F.sz + F.sz - F.sz = i * F.sz by omega]
    exact g1

theorem fden_set {F : Fm} : ∀ {l : List F.α} {i : Nat} {a : F.α}, (∀ b ∈ l, F.wf b) → F.wf a → i < l.length → fden F (l.set i a) = blit (fden F l) (i * F.sz) (c0den [] (F.sg a))
  | [], i, _, _, _, h => by simp at h
  | b :: l, 0, a, hw, ha, _ => by
    have h1 := c0len (E := []) ((F.hwf b).1 (hw b (by simp)))
    have h2 := c0len (E := []) ((F.hwf a).1 ha)
    rw [F.hsz] at h1 h2
    simp only [fden, List.set_cons_zero, Nat.zero_mul, blit, List.take_zero, List.nil_append, Nat.zero_add, h2]
    congr 1
    rw [← h1, List.drop_append_of_le_length (Nat.le_refl _), List.drop_length, List.nil_append]
  | b :: l, i + 1, a, hw, ha, h => by
    have h1 := c0len (E := []) ((F.hwf b).1 (hw b (by simp)))
    rw [F.hsz] at h1
    have ih := fden_set (F := F) (l := l) (i := i) (a := a) (fun b hb => hw b (by simp [hb])) ha (by simpa using h)
    simp only [fden, List.set_cons_succ, Nat.succ_mul]
    rw [ih, blit_right (by omega), h1, show i * F.sz + F.sz - F.sz = i * F.sz by omega]

theorem Sg0.put_len {a v : List Value} {o : Nat} (h : o + v.length ≤ a.length) : (blit a o v).length = a.length := by
  simp only [blit, List.length_append, List.length_take, List.length_drop]; omega

/-- The i-th of a run, and how many there are. -/
def Sg.elem : Sg FM → Nat → Nat → Option (List Sg0 × Nat)
  | .b (.iz k l m), i, st => bif Nat.beq st 1 then some ([.cl (.xv (.int k (l.getD i 0)))], m) else none
  | .f j l m, i, st => bif Nat.beq st (FM j).sz then some ((FM j).sg (l.getD i (FM j).d), m) else none
  | _, _, _ => none
def Sg.eput : Sg FM → Nat → List Sg0 → Option (Sg FM)
  | .b (.iz k l m), i, [.cl (.xv (.int k' x))] => bif decide (k = k') then some (.b (.iz k (l.set i x) m)) else none
  | .f j l m, i, e => ((FM j).of e).map fun a => .f j (l.set i a) m
  | _, _, _ => none

theorem Sg.elem_spec {E : List Ad} {N : Nat} {s : Sg FM} {i st m : Nat} {e : List Sg0} (h : s.elem i st = some (e, m)) (hw : s.wf) (hi : i < m) :
    ((s.den E).drop (i * st)).take st = c0den E e ∧ c0wf e ∧ c0ok N e = true ∧ c0n e = st ∧ i * st + st ≤ s.n := by
  unfold Sg.elem at h
  split at h
  · rename_i k l m'
    simp only [cond_eq_ite] at h
    split at h
    · rename_i hc
      have hc := beq_n hc; subst hc
      simp only [Option.some.injEq, Prod.mk.injEq] at h
      obtain ⟨rfl, rfl⟩ := h
      have hw : l.length = m' := hw
      refine ⟨?_, ⟨trivial, trivial⟩, rfl, rfl, by simp [Sg.n, Sg0.n]; omega⟩
      rw [Nat.mul_one]
      exact take_one (iv_get (by omega))
    · cases h
  · rename_i j l m'
    simp only [cond_eq_ite] at h
    split at h
    · rename_i hc
      have hc := beq_n hc; subst hc
      simp only [Option.some.injEq, Prod.mk.injEq] at h
      obtain ⟨rfl, rfl⟩ := h
      obtain ⟨h1, h2⟩ := hw
      obtain ⟨g1, g2⟩ := fden_get (F := FM j) (l := l) (i := i) h2 (by omega)
      refine ⟨by simp only [Sg.den]; exact g1.trans fm_den0.symm, ((FM j).hwf _).1 g2, c0ok_mono (Nat.zero_le _) ((FM j).hok _), (FM j).hsz _, ?_⟩
      simp only [Sg.n]
      have := Nat.mul_le_mul_right (FM j).sz (show i + 1 ≤ m' by omega)
      rw [Nat.succ_mul] at this
      omega
    · cases h
  · cases h

theorem Sg.eput_spec {E : List Ad} {N : Nat} {s s' : Sg FM} {i st m : Nat} {e e0 : List Sg0} (h0 : s.elem i st = some (e0, m)) (h : s.eput i e = some s') (hw : s.wf) (he : c0wf e) (hn : c0n e = st) (hi : i < m) :
    s'.den E = blit (s.den E) (i * st) (c0den E e) ∧ s'.wf ∧ s'.ok N = true ∧ s'.n = s.n := by
  unfold Sg.eput at h
  split at h
  · rename_i k l m' k' x
    simp only [cond_eq_ite] at h
    split at h
    · rename_i hc
      have hc := of_decide_eq_true hc; subst hc
      simp only [Option.some.injEq] at h; subst h
      simp only [c0n, Sg0.n] at hn; subst hn
      simp only [Sg.elem, cond_eq_ite] at h0
      split at h0
      · simp only [Option.some.injEq, Prod.mk.injEq] at h0
        obtain ⟨-, rfl⟩ := h0
        have hw : l.length = m' := hw
        refine ⟨?_, by simpa [Sg.wf, Sg0.wf] using hw, rfl, rfl⟩
        simp only [Sg.den, Sg0.den, c0den, S0.den, List.append_nil, Nat.add_zero, Nat.mul_one]
        exact (iv_set k l i x (by omega)).symm
      · cases h0
    · cases h
  · rename_i j l m'
    obtain ⟨a, ha, rfl⟩ := Option.map_eq_some_iff.1 h
    have hs := (FM j).hmk _ _ ha
    simp only [Sg.elem, cond_eq_ite] at h0
    split at h0
    · rename_i hc
      have hc := beq_n hc
      simp only [Option.some.injEq, Prod.mk.injEq] at h0
      obtain ⟨-, rfl⟩ := h0
      obtain ⟨h1, h2⟩ := hw
      have hwa : (FM j).wf a := ((FM j).hwf a).2 (by rw [hs]; exact he)
      refine ⟨?_, ⟨by simpa using h1, fun b hb => ?_⟩, rfl, rfl⟩
      · simp only [Sg.den]
        rw [fden_set h2 hwa (by omega), hc, ← hs, fm_den0 (E := E)]
      · rcases List.mem_or_eq_of_mem_set hb with hb | rfl
        · exact h2 b hb
        · exact hwa
    · cases h0
  · cases h

/-! ### Parts and stores of rows -/
def Sg.part : Sg FM → Nat → Nat → Option (Ce FM)
  | .b s, o, n => (s.part o n).map up0
  | .f j l m, o, n =>
    bif Nat.blt (o / (FM j).sz) m then (c0sub ((FM j).sg (l.getD (o / (FM j).sz) (FM j).d)) (o % (FM j).sz) n).map up0 else none
def Sg.putp : Sg FM → Nat → List Sg0 → Option (Sg FM)
  | .b s, o, v => (s.putp o v).map .b
  | .f j l m, o, v =>
    bif Nat.blt (o / (FM j).sz) m then (c0put ((FM j).sg (l.getD (o / (FM j).sz) (FM j).d)) (o % (FM j).sz) v).bind fun e => Sg.eput (.f j l m) (o / (FM j).sz) e else none

theorem drop_take_drop {l : List Value} {a b o n : Nat} (h : o + n ≤ b) : (((l.drop a).take b).drop o).take n = (l.drop (a + o)).take n := by
  rw [List.drop_take, List.take_take, Nat.min_eq_left (by omega), List.drop_drop]

theorem blit_blit {l v : List Value} {a b o : Nat} (h : o + v.length ≤ b) (hb : a + b ≤ l.length) : blit l a (blit ((l.drop a).take b) o v) = blit l (a + o) v := by
  have hl : ((l.drop a).take b).length = b := by simp; omega
  have hl2 : (blit ((l.drop a).take b) o v).length = b := by rw [Sg0.put_len (by omega), hl]
  have e : l = l.take a ++ ((l.drop a).take b ++ l.drop (a + b)) := by
    rw [← List.drop_drop, List.take_append_drop, List.take_append_drop]
  have ha : (l.take a).length = a := by simp; omega
  have r : blit l (a + o) v = l.take a ++ (blit ((l.drop a).take b) o v ++ l.drop (a + b)) := by
    conv => lhs; rw [e]
    rw [blit_right (by omega), ha, show a + o - a = o by omega, blit_left (by omega)]
  rw [r]
  generalize blit ((l.drop a).take b) o v = y at hl2
  simp [blit, hl2]

theorem Sg.part_spec {E : List Ad} {N : Nat} {s : Sg FM} {o n : Nat} {c : Ce FM} (h : s.part o n = some c) (hw : s.wf) (hk : s.ok N = true) :
    ((s.den E).drop o).take n = cden E c ∧ cwf c ∧ cok N c = true ∧ cn c = n ∧ o + n ≤ s.n := by
  cases s with
  | b s =>
    obtain ⟨r, hr, rfl⟩ := Option.map_eq_some_iff.1 h
    obtain ⟨g1, g2, g3, g4, g5⟩ := Sg0.part_spec (E := E) hr hw hk
    exact ⟨by rw [up0_den]; exact g1, up0_wf g2, up0_ok g3, by rw [up0_n]; exact g4, g5⟩
  | f j l m =>
    simp only [Sg.part, cond_eq_ite] at h
    split at h
    · rename_i hc
      have hc := Nat.blt_eq.mp hc
      obtain ⟨r, hr, rfl⟩ := Option.map_eq_some_iff.1 h
      have he : (Sg.f j l m : Sg FM).elem (o / (FM j).sz) (FM j).sz = some ((FM j).sg (l.getD (o / (FM j).sz) (FM j).d), m) := by simp [Sg.elem]
      obtain ⟨q1, q2, q3, q4, q5⟩ := Sg.elem_spec (E := E) (N := N) he hw hc
      obtain ⟨g1, g2, g3, g4, g5⟩ := c0sub_spec (E := E) hr q2 q3
      rw [q4] at g5
      have hdm : o / (FM j).sz * (FM j).sz + o % (FM j).sz = o := by rw [Nat.mul_comm]; exact Nat.div_add_mod _ _
      refine ⟨?_, up0_wf g2, up0_ok g3, by rw [up0_n]; exact g4, by omega⟩
      rw [up0_den, ← g1, ← q1, drop_take_drop g5, hdm]
    · cases h

theorem Sg.putp_spec {E : List Ad} {N : Nat} {s s' : Sg FM} {o : Nat} {v : List Sg0} (h : s.putp o v = some s') (hw : s.wf) (hv : c0wf v) (hvk : c0ok N v = true) :
    s'.den E = blit (s.den E) o (c0den E v) ∧ s'.wf ∧ s'.ok N = true ∧ s'.n = s.n ∧ o + c0n v ≤ s.n := by
  cases s with
  | b s =>
    obtain ⟨r, hr, rfl⟩ := Option.map_eq_some_iff.1 h
    exact Sg0.putp_spec (E := E) hr hw hv
  | f j l m =>
    simp only [Sg.putp, cond_eq_ite] at h
    split at h
    · rename_i hc
      have hc := Nat.blt_eq.mp hc
      obtain ⟨e, he', hp⟩ := Option.bind_eq_some_iff.1 h
      have he : (Sg.f j l m : Sg FM).elem (o / (FM j).sz) (FM j).sz = some ((FM j).sg (l.getD (o / (FM j).sz) (FM j).d), m) := by simp [Sg.elem]
      obtain ⟨q1, q2, q3, q4, q5⟩ := Sg.elem_spec (E := E) (N := N) he hw hc
      obtain ⟨g1, g2, g3, g4, g5⟩ := c0put_spec (E := E) he' q2 q3 hv hvk
      obtain ⟨p1, p2, p3, p4⟩ := Sg.eput_spec (E := E) (N := N) he hp hw g2 (by rw [g4, q4]) hc
      rw [q4] at g5
      have hl := Sg.len (E := E) hw
      have hvl := c0len (E := E) hv
      have hdm : o / (FM j).sz * (FM j).sz + o % (FM j).sz = o := by rw [Nat.mul_comm]; exact Nat.div_add_mod _ _
      refine ⟨?_, p2, p3, p4, by omega⟩
      rw [p1, g1, ← q1, blit_blit (by omega) (by omega), hdm]
    · cases h

def csub : Ce FM → Nat → Nat → Option (Ce FM)
  | [], _, _ => none
  | s :: c, o, n =>
    bif Nat.beq o 0 && Nat.beq s.n n then some [s]
    else match o with
    | 0 => bif Nat.ble n s.n then s.part 0 n else (csub c 0 (n - s.n)).map (s :: ·)
    | o + 1 => bif Nat.ble s.n (o + 1) then csub c (o + 1 - s.n) n else s.part (o + 1) n

theorem csub_spec {E : List Ad} {N : Nat} : ∀ {c : Ce FM} {o n : Nat} {r : Ce FM}, csub c o n = some r → cwf c → cok N c = true →
    ((cden E c).drop o).take n = cden E r ∧ cwf r ∧ cok N r = true ∧ cn r = n ∧ o + n ≤ cn c
  | [], _, _, _, h, _, _ => by simp [csub] at h
  | s :: c, o, n, r, h, hw, hk => by
    simp only [cok, Bool.and_eq_true] at hk
    have hl := Sg.len (E := E) hw.1
    have hl2 := clen (E := E) hw.2
    simp only [csub, cond_eq_ite] at h
    split at h
    · rename_i hc
      simp only [Bool.and_eq_true] at hc
      have h1 := beq_n hc.1; have h2 := beq_n hc.2
      subst h1 h2
      simp only [Option.some.injEq] at h; subst h
      refine ⟨?_, ⟨hw.1, trivial⟩, by simp [cok, hk.1], by simp [cn], by simp [cn]⟩
      simp only [cden, List.drop_zero, List.append_nil]
      rw [← hl, List.take_append_of_le_length (Nat.le_refl _), List.take_length]
    · split at h
      · split at h
        · obtain ⟨g1, g2, g3, g4, g5⟩ := Sg.part_spec (E := E) h hw.1 hk.1
          refine ⟨?_, g2, g3, g4, by simp [cn]; omega⟩
          rw [cden, drop_take_left (by omega)]; exact g1
        · rename_i hc
          have hc : s.n < n := by
            rcases Nat.lt_or_ge s.n n with h' | h'
            · exact h'
            · exact absurd (Nat.ble_eq.mpr h') hc
          obtain ⟨r', hr, rfl⟩ := Option.map_eq_some_iff.1 h
          obtain ⟨g1, g2, g3, g4, g5⟩ := csub_spec hr hw.2 hk.2
          refine ⟨?_, ⟨hw.1, g2⟩, by simp [cok, hk.1, g3], by simp [cn, g4]; omega, by simp [cn]; omega⟩
          simp only [cden, List.drop_zero] at g1 ⊢
          rw [← g1, List.take_append, List.take_of_length_le (by omega), hl]
      · rename_i o
        split at h
        · rename_i hc
          have hc := Nat.le_of_ble_eq_true hc
          obtain ⟨g1, g2, g3, g4, g5⟩ := csub_spec h hw.2 hk.2
          refine ⟨?_, g2, g3, g4, by simp [cn]; omega⟩
          rw [cden, drop_take_right (by omega), hl]; exact g1
        · obtain ⟨g1, g2, g3, g4, g5⟩ := Sg.part_spec (E := E) h hw.1 hk.1
          refine ⟨?_, g2, g3, g4, by simp [cn]; omega⟩
          rw [cden, drop_take_left (by omega)]; exact g1

def cdrop : Ce FM → Nat → Option (Ce FM)
  | c, 0 => some c
  | [], _ + 1 => none
  | s :: c, n + 1 => bif Nat.ble s.n (n + 1) && Nat.ble 1 s.n then cdrop c (n + 1 - s.n) else none

theorem cdrop_spec {E : List Ad} {N : Nat} : ∀ {c : Ce FM} {n : Nat} {r : Ce FM}, cdrop c n = some r → cwf c → cok N c = true →
    cden E r = (cden E c).drop n ∧ cwf r ∧ cok N r = true ∧ cn r + n = cn c
  | c, 0, r, h, hw, hk => by
    have : c = r := by cases c <;> simpa [cdrop] using h
    subst this
    exact ⟨by simp, hw, hk, by simp⟩
  | [], n + 1, r, h, _, _ => by simp [cdrop] at h
  | s :: c, n + 1, r, h, hw, hk => by
    simp only [cok, Bool.and_eq_true] at hk
    simp only [cdrop, cond_eq_ite] at h
    split at h
    · rename_i hc
      simp only [Bool.and_eq_true] at hc
      have hc := Nat.le_of_ble_eq_true hc.1
      obtain ⟨g1, g2, g3, g4⟩ := cdrop_spec (E := E) h hw.2 hk.2
      have hl := Sg.len (E := E) hw.1
      refine ⟨?_, g2, g3, by simp [cn]; omega⟩
      rw [g1, cden, List.drop_append, show (s.den E).drop (n + 1) = [] from List.drop_of_length_le (by omega), List.nil_append, hl]
    · cases h

def cput : Ce FM → Nat → Ce FM → Option (Ce FM)
  | [], _, _ => none
  | s :: c, 0, v => bif Nat.ble s.n (cn v) then (cdrop (s :: c) (cn v)).map (v ++ ·) else (dn0 v).bind fun v => (s.putp 0 v).map (· :: c)
  | s :: c, o + 1, v => bif Nat.ble s.n (o + 1) then (cput c (o + 1 - s.n) v).map (s :: ·) else (dn0 v).bind fun v => (s.putp (o + 1) v).map (· :: c)

theorem cput_spec {E : List Ad} {N : Nat} : ∀ {c : Ce FM} {o : Nat} {v r : Ce FM}, cput c o v = some r → cwf c → cok N c = true → cwf v → cok N v = true →
    cden E r = blit (cden E c) o (cden E v) ∧ cwf r ∧ cok N r = true ∧ cn r = cn c ∧ o + cn v ≤ cn c
  | [], o, v, r, h, _, _, _, _ => by simp [cput] at h
  | s :: c, 0, v, r, h, hw, hk, hv, hvk => by
    have hvl := clen (E := E) hv
    simp only [cput, cond_eq_ite] at h
    split at h
    · obtain ⟨r', hr, rfl⟩ := Option.map_eq_some_iff.1 h
      obtain ⟨g1, g2, g3, g4⟩ := cdrop_spec (E := E) hr hw hk
      refine ⟨?_, cwf_append.2 ⟨hv, g2⟩, cok_append.2 ⟨hvk, g3⟩, by rw [cn_append]; omega, by omega⟩
      rw [cden_append, g1, blit, hvl]
      simp
    · obtain ⟨v0, hv0, h9⟩ := Option.bind_eq_some_iff.1 h
      have := dn0_spec hv0; subst this
      obtain ⟨s', hs, rfl⟩ := Option.map_eq_some_iff.1 h9
      simp only [cok, Bool.and_eq_true] at hk ⊢
      obtain ⟨g1, g2, g3, g4, g5⟩ := Sg.putp_spec (E := E) (N := N) hs hw.1 (up0_wf' hv) (up0_ok' hvk)
      rw [up0_den, up0_n] at *
      refine ⟨?_, ⟨g2, hw.2⟩, ⟨g3, hk.2⟩, by simp [cn, g4], by simp [cn]; omega⟩
      rw [cden, cden, g1, blit_left (by rw [Sg.len hw.1, hvl]; omega)]
  | s :: c, o + 1, v, r, h, hw, hk, hv, hvk => by
    have hvl := clen (E := E) hv
    simp only [cput, cond_eq_ite] at h
    simp only [cok, Bool.and_eq_true] at hk ⊢
    split at h
    · rename_i hc
      have hc := Nat.le_of_ble_eq_true hc
      obtain ⟨r', hr, rfl⟩ := Option.map_eq_some_iff.1 h
      obtain ⟨g1, g2, g3, g4, g5⟩ := cput_spec (E := E) hr hw.2 hk.2 hv hvk
      refine ⟨?_, ⟨hw.1, g2⟩, by simp [cok, hk.1, g3], by simp [cn, g4], by simp [cn]; omega⟩
      rw [cden, cden, g1, blit_right (by rw [Sg.len hw.1]; omega), Sg.len hw.1]
    · obtain ⟨v0, hv0, h9⟩ := Option.bind_eq_some_iff.1 h
      have := dn0_spec hv0; subst this
      obtain ⟨s', hs, rfl⟩ := Option.map_eq_some_iff.1 h9
      obtain ⟨g1, g2, g3, g4, g5⟩ := Sg.putp_spec (E := E) (N := N) hs hw.1 (up0_wf' hv) (up0_ok' hvk)
      rw [up0_den, up0_n] at *
      refine ⟨?_, ⟨g2, hw.2⟩, by simp [cok, hk.2, g3], by simp [cn, g4], by simp [cn]; omega⟩
      rw [cden, cden, g1, blit_left (by rw [Sg.len hw.1, hvl]; omega)]

/-- The part of a row that begins at a place: what stands ahead of it, it, and what stands behind it. -/
def catq : Ce FM → Nat → Option (Ce FM × Sg FM × Ce FM)
  | [], _ => none
  | s :: c, 0 => some ([], s, c)
  | s :: c, o + 1 => bif Nat.ble s.n (o + 1) then (catq c (o + 1 - s.n)).map fun (a, x, b) => (s :: a, x, b) else none
theorem catq_spec : ∀ {c : Ce FM} {o : Nat} {a b : Ce FM} {x : Sg FM}, catq c o = some (a, x, b) → c = a ++ x :: b ∧ cn a = o
  | [], _, _, _, _, h => by simp [catq] at h
  | s :: c, 0, a, b, x, h => by
    simp only [catq, Option.some.injEq, Prod.mk.injEq] at h
    obtain ⟨rfl, rfl, rfl⟩ := h
    exact ⟨rfl, rfl⟩
  | s :: c, o + 1, a, b, x, h => by
    simp only [catq, cond_eq_ite] at h
    split at h
    · rename_i hc
      have hc := Nat.le_of_ble_eq_true hc
      obtain ⟨⟨a', x', b'⟩, hr, h⟩ := Option.map_eq_some_iff.1 h
      simp only [Prod.mk.injEq] at h
      obtain ⟨rfl, rfl, rfl⟩ := h
      obtain ⟨g1, g2⟩ := catq_spec hr
      exact ⟨by rw [g1]; rfl, by simp [cn, g2]; omega⟩
    · cases h

/-- A part of an element at a place. -/
def cdyn (c : Ce FM) (o i st o2 n : Nat) : Option (List Sg0 × Nat) :=
  (catq c o).bind fun (_, x, _) => (x.elem i st).bind fun (e, m) => (c0sub e o2 n).map fun r => (r, m)
def cdynput (c : Ce FM) (o i st o2 : Nat) (v : Ce FM) : Option (Ce FM × Nat) :=
  (catq c o).bind fun (a, x, b) => (x.elem i st).bind fun (e, m) => (dn0 v).bind fun v => (c0put e o2 v).bind fun e' => (x.eput i e').map fun x' => (a ++ x' :: b, m)

theorem mid_take {a x b : List Value} {o n q : Nat} (ho : a.length = q) (h : o + n ≤ x.length) : ((a ++ (x ++ b)).drop (q + o)).take n = (x.drop o).take n := by
  rw [List.drop_append, List.drop_of_length_le (by omega), List.nil_append, show q + o - a.length = o by omega, drop_take_left h]

theorem cdyn_spec {E : List Ad} {N : Nat} {c : Ce FM} {o i st o2 n m : Nat} {r : List Sg0} (h : cdyn c o i st o2 n = some (r, m)) (hw : cwf c) (hi : i < m) :
    ((cden E c).drop (o + i * st + o2)).take n = c0den E r ∧ c0wf r ∧ c0ok N r = true ∧ c0n r = n ∧ o + i * st + o2 + n ≤ (cden E c).length := by
  obtain ⟨⟨a, x, b⟩, h1, h⟩ := Option.bind_eq_some_iff.1 h
  obtain ⟨⟨e, m'⟩, h2, h⟩ := Option.bind_eq_some_iff.1 h
  obtain ⟨r', h3, h⟩ := Option.map_eq_some_iff.1 h
  simp only [Prod.mk.injEq] at h
  obtain ⟨rfl, rfl⟩ := h
  obtain ⟨rfl, ho⟩ := catq_spec h1
  obtain ⟨wa, wx⟩ := cwf_append.1 hw
  obtain ⟨q1, q2, q3, q4, q5⟩ := Sg.elem_spec (E := E) (N := N) h2 wx.1 hi
  obtain ⟨g1, g2, g3, g4, g5⟩ := c0sub_spec (E := E) h3 q2 q3
  rw [q4] at g5
  have hl := Sg.len (E := E) wx.1
  have hla := clen (E := E) wa
  refine ⟨?_, g2, g3, g4, by rw [cden_append]; simp only [cden, List.length_append]; omega⟩
  rw [cden_append]
  simp only [cden]
  rw [Nat.add_assoc, mid_take (by omega) (by omega), ← g1, ← q1, drop_take_drop g5]

theorem cdynput_spec {E : List Ad} {N : Nat} {c c' v : Ce FM} {o i st o2 m : Nat} (h : cdynput c o i st o2 v = some (c', m)) (hw : cwf c) (hk : cok N c = true) (hv : cwf v) (hvk : cok N v = true) (hi : i < m) :
    cden E c' = blit (cden E c) (o + i * st + o2) (cden E v) ∧ cwf c' ∧ cok N c' = true ∧ cn c' = cn c ∧ o + i * st + o2 + cn v ≤ (cden E c).length := by
  obtain ⟨⟨a, x, b⟩, h1, h⟩ := Option.bind_eq_some_iff.1 h
  obtain ⟨⟨e, m'⟩, h2, h⟩ := Option.bind_eq_some_iff.1 h
  obtain ⟨v0, h3, h⟩ := Option.bind_eq_some_iff.1 h
  obtain ⟨e', h4, h⟩ := Option.bind_eq_some_iff.1 h
  obtain ⟨x', h5, h⟩ := Option.map_eq_some_iff.1 h
  simp only [Prod.mk.injEq] at h
  obtain ⟨rfl, rfl⟩ := h
  have := dn0_spec h3; subst this
  obtain ⟨rfl, ho⟩ := catq_spec h1
  obtain ⟨wa, wx⟩ := cwf_append.1 hw
  obtain ⟨ka, kx⟩ := cok_append.1 hk
  simp only [cok, Bool.and_eq_true] at kx
  have hv' := up0_wf' hv
  obtain ⟨q1, q2, q3, q4, q5⟩ := Sg.elem_spec (E := E) (N := N) h2 wx.1 hi
  obtain ⟨g1, g2, g3, g4, g5⟩ := c0put_spec (E := E) h4 q2 q3 hv' (up0_ok' hvk)
  obtain ⟨p1, p2, p3, p4⟩ := Sg.eput_spec (E := E) (N := N) h2 h5 wx.1 g2 (by rw [g4, q4]) hi
  rw [q4] at g5
  have hl := Sg.len (E := E) wx.1
  have hla := clen (E := E) wa
  have hvl := c0len (E := E) hv'
  refine ⟨?_, cwf_append.2 ⟨wa, p2, wx.2⟩, cok_append.2 ⟨ka, by simp [cok, p3, kx.2]⟩, by simp [cn_append, cn, p4], by rw [cden_append, up0_n]; simp only [cden, List.length_append]; omega⟩
  rw [cden_append, cden_append, up0_den]
  simp only [cden]
  rw [p1, g1, ← q1, blit_blit (by omega) (by omega), blit_right (by omega), hla, ho, blit_left (by omega)]
  congr 3
  congr 1; omega
end
end Go.Px
end
section
/-
  States that are told by their shape: tables, pieces of memory; and the operations that yield a value. No condition.
-/
set_option linter.all false
namespace Go.Px
open Go.RowKit

section
variable {FM : Nat → Fm}

/-- A value: one cell, or many. -/
inductive SV (FM : Nat → Fm) where
  | one (x : S0)
  | ag (c : Ce FM)
/-- What a temporary holds. -/
inductive TV (FM : Nat → Fm) where
  | v (x : SV FM)
  | tup (l : List (SV FM))
  | fn (f : FuncId) (a b : List (SV FM))

def SV.den (E : List Ad) : SV FM → Value
  | .one x => x.den E
  | .ag c => .agg (cden E c).toArray
def SV.wf : SV FM → Prop
  | .one _ => True
  | .ag c => cwf c
def SV.lt (N : Nat) : SV FM → Bool
  | .one x => x.lt N
  | .ag c => cok N c
def TV.den (E : List Ad) : TV FM → Value
  | .v x => x.den E
  | .tup l => .tuple (l.map (SV.den E)).toArray
  | .fn f a b => .func (.func f) (a.map (SV.den E)).toArray (b.map (SV.den E)).toArray
def svwf : List (SV FM) → Prop
  | [] => True
  | x :: l => x.wf ∧ svwf l
def svlt (N : Nat) : List (SV FM) → Bool
  | [] => true
  | x :: l => x.lt N && svlt N l
def TV.wf : TV FM → Prop
  | .v x => x.wf
  | .tup l => svwf l
  | .fn _ a b => svwf a ∧ svwf b
def TV.lt (N : Nat) : TV FM → Bool
  | .v x => x.lt N
  | .tup l => svlt N l
  | .fn _ a b => svlt N a && svlt N b

theorem SV.ext {E X : List Ad} {x : SV FM} (h : x.lt E.length = true) : x.den (E ++ X) = x.den E := by
  cases x with
  | one x => exact S0.ext h
  | ag c => simp only [SV.den, cext (show cok E.length c = true from h)]
theorem svext {E X : List Ad} : ∀ {l : List (SV FM)}, svlt E.length l = true → l.map (SV.den (E ++ X)) = l.map (SV.den E)
  | [], _ => rfl
  | x :: l, h => by
    simp only [svlt, Bool.and_eq_true] at h
    simp only [List.map_cons, SV.ext h.1, svext h.2]
theorem TV.ext {E X : List Ad} {x : TV FM} (h : x.lt E.length = true) : x.den (E ++ X) = x.den E := by
  cases x with
  | v x => exact SV.ext h
  | tup l => simp only [TV.den, svext (show svlt E.length l = true from h)]
  | fn f a b =>
    have h : (svlt E.length a && svlt E.length b) = true := h
    simp only [Bool.and_eq_true] at h
    simp only [TV.den, svext h.1, svext h.2]
theorem SV.lt_mono {n m : Nat} {x : SV FM} (h : x.lt n = true) (hm : n ≤ m) : x.lt m = true := by
  cases x with
  | one x => exact S0.lt_mono h hm
  | ag c => exact cok_mono hm h
theorem svlt_mono {n m : Nat} (hm : n ≤ m) : ∀ {l : List (SV FM)}, svlt n l = true → svlt m l = true
  | [], _ => rfl
  | x :: l, h => by
    simp only [svlt, Bool.and_eq_true] at h ⊢
    exact ⟨SV.lt_mono h.1 hm, svlt_mono hm h.2⟩
theorem TV.lt_mono {n m : Nat} {x : TV FM} (h : x.lt n = true) (hm : n ≤ m) : x.lt m = true := by
  cases x with
  | v x => exact SV.lt_mono h hm
  | tup l => exact svlt_mono hm h
  | fn f a b =>
    have h : (svlt n a && svlt n b) = true := h
    simp only [Bool.and_eq_true] at h
    show (svlt m a && svlt m b) = true
    simp only [Bool.and_eq_true]
    exact ⟨svlt_mono hm h.1, svlt_mono hm h.2⟩

def SV.ce : SV FM → Ce FM
  | .one x => [.b (.cl x)]
  | .ag c => c
theorem SV.ce_den {E : List Ad} (x : SV FM) (h : ∀ y, x = .one y → y.ok = true) : (x.den E).cells = (cden E x.ce).toArray := by
  cases x with
  | ag c => rfl
  | one x =>
    have h1 := S0.one (E := E) (h x rfl)
    simp only [SV.den, SV.ce, cden, Sg.den, Sg0.den]
    generalize x.den E = v at h1
    cases v <;> simp [Value.oneCell', Value.cells] at h1 ⊢

/-- Temporaries: what is known of them; none: it was written, and nothing is known. -/
abbrev ST (FM : Nat → Fm) := List (Nat × Option (TV FM))
def lookS : ST FM → Nat → Option (TV FM)
  | [], _ => none
  | (s, v) :: r, t => bif Nat.beq s t then v else lookS r t
def tden (E : List Ad) : ST FM → Tab
  | [] => []
  | (s, some v) :: r => (s, v.den E) :: tden E r
  | (s, none) :: r => (tden E r).filter fun x => !Nat.beq s x.1
theorem look_filter {s t : Nat} : ∀ (T : Tab), look (T.filter fun x => !Nat.beq s x.1) t = if s = t then none else look T t
  | [] => by simp [look]
  | (u, v) :: r => by
    have ih := look_filter (s := s) (t := t) r
    by_cases h : s = u
    · subst h
      simp only [List.filter_cons, Nat.beq_refl, Bool.not_true, Bool.false_eq_true, if_false, ih, look]
      by_cases e : s = t
      · simp [e]
      · simp [e]
    · have hb : Nat.beq s u = false := by
        cases hb : Nat.beq s u with
        | false => rfl
        | true => exact absurd (beq_n hb) h
      simp only [List.filter_cons, hb, Bool.not_false, if_true, look, ih]
      by_cases e : u = t
      · subst e
        simp [h]
      · simp [e]
theorem lookS_den {E : List Ad} : ∀ (T : ST FM) (t : Nat), look (tden E T) t = (lookS T t).map (TV.den E)
  | [], t => rfl
  | (s, some v) :: r, t => by
    simp only [tden, look, lookS, cond_eq_ite]
    by_cases h : s = t
    · subst h; simp
    · rw [if_neg (by simpa using h), if_neg (by simpa using h)]
      exact lookS_den r t
  | (s, none) :: r, t => by
    simp only [tden, look_filter, lookS, cond_eq_ite]
    by_cases h : s = t
    · subst h; simp
    · rw [if_neg h, if_neg (by simpa using h)]
      exact lookS_den r t

def fmRd (F : Fm) (w : World) (a : F.α) : Prop := ∀ o A k l, F.inn a o = some (A, k, l) → Rd w A (iv k l)
def dRd (w : World) : Ce FM → Prop
  | [] => True
  | .f j l _ :: c => (∀ a ∈ l, fmRd (FM j) w a) ∧ dRd w c
  | .b _ :: c => dRd w c
theorem fmRd.flat {F : Fm} (h : F.deep = false) (w : World) (a : F.α) : fmRd F w a := fun o A k l e => by rw [F.hdp h] at e; cases e
theorem dRd.keep {w w' : World} (k : Keep w w') : ∀ {c : Ce FM}, dRd w c → dRd w' c
  | [], _ => trivial
  | .f _ _ _ :: _, h => ⟨fun a ha o A q l e => (h.1 a ha o A q l e).keep k, dRd.keep k h.2⟩
  | .b _ :: c, h => dRd.keep (c := c) k h
def ROk (E : List Ad) (w : World) : List (Nat × Ce FM) → Prop
  | [] => True
  | (id, c) :: r => (Rd w (bas E id 0) (cden E c) ∧ dRd w c) ∧ ROk E w r
def dsOk (w : World) : List (Ce FM) → Prop
  | [] => True
  | c :: r => dRd w c ∧ dsOk w r
def rslt (N : Nat) : List (Nat × Ce FM) → Bool
  | [] => true
  | (id, c) :: r => (Nat.blt id N && cok N c) && rslt N r
def rswf : List (Nat × Ce FM) → Prop
  | [] => True
  | (_, c) :: r => cwf c ∧ rswf r
theorem ROk_same {E X : List Ad} {w : World} : ∀ {r : List (Nat × Ce FM)}, rslt E.length r = true → ROk (E ++ X) w r = ROk E w r
  | [], _ => rfl
  | (id, c) :: r, h => by
    simp only [rslt, Bool.and_eq_true] at h
    simp only [ROk, bas_ext h.1.1, cext h.1.2, ROk_same h.2]
/-- A piece of memory. -/
inductive Pc (FM : Nat → Fm) where
  | bk (id : Nat) (c : Ce FM) (ty : TypeId)
  | sl (id n cap : Nat) (c : Ce FM) (e s : Nat)
  | rd (id : Nat) (c : Ce FM)
  | pr (φ : World → Prop)
  | lp (id : Nat) (r : Loop) (st : LoopState) (pd : Option Code)
  | mk (id : Nat) (shut : Bool)
  | fz (rs : List (Nat × Ce FM)) (ds : List (Ce FM))
  | mp (id n : Nat) (l : List (List Int × Int))
def Pc.den (E : List Ad) : Pc FM → Ent
  | .bk id c ty => .bk (bno E id) (row (cden E c) ty)
  | .sl id n cap c e s => .sl (bas E id 0) n cap (cden E c) e s
  | .rd id c => .pr fun w => Rd w (bas E id 0) (cden E c)
  | .pr φ => .pr φ
  | .lp id r st pd => .bk (bno E id) (.loop { r with state := st, pending := pd })
  | .mk id b => .bk (bno E id) (.deferred (bif b then none else some []))
  | .fz rs ds => .pr fun w => ROk E w rs ∧ dsOk w ds
  | .mp id _ l => .bk (bno E id) (mObj l)
def Pc.wf : Pc FM → Prop
  | .bk _ c _ => cwf c
  | .sl _ _ _ c _ _ => cwf c
  | .rd _ c => cwf c
  | .pr _ => True
  | .lp _ _ _ _ => True
  | .mk _ _ => True
  | .fz rs _ => rswf rs
  | .mp _ n l => ∀ p ∈ l, p.1.length = n
def Pc.lt (N : Nat) : Pc FM → Bool
  | .bk id c _ => Nat.blt id N && cok N c
  | .sl id _ _ c _ _ => Nat.blt id N && cok N c
  | .rd id c => Nat.blt id N && cok N c
  | .pr _ => true
  | .lp id _ _ _ => Nat.blt id N
  | .mk id _ => Nat.blt id N
  | .fz rs _ => rslt N rs
  | .mp id _ _ => Nat.blt id N
def Pc.id? : Pc FM → Option Nat
  | .bk id _ _ => some id
  | .sl id _ _ _ _ _ => some id
  | .rd id _ => some id
  | .pr _ => none
  | .lp id _ _ _ => some id
  | .mk id _ => some id
  | .fz _ _ => none
  | .mp id _ _ => some id
def Pc.ce : Pc FM → Ce FM
  | .bk _ c _ => c
  | .sl _ _ _ c _ _ => c
  | .rd _ c => c
  | .pr _ => []
  | .lp _ _ _ _ => []
  | .mk _ _ => []
  | .fz _ _ => []
  | .mp _ _ _ => []
theorem Pc.ext {E X : List Ad} {p : Pc FM} (h : p.lt E.length = true) : p.den (E ++ X) = p.den E := by
  cases p with
  | bk id c ty =>
    have h : (Nat.blt id E.length && cok E.length c) = true := h
    simp only [Bool.and_eq_true] at h
    simp only [Pc.den, bno_ext h.1, cext h.2]
  | sl id n cap c e s =>
    have h : (Nat.blt id E.length && cok E.length c) = true := h
    simp only [Bool.and_eq_true] at h
    simp only [Pc.den, bas_ext h.1, cext h.2]
  | rd id c =>
    have h : (Nat.blt id E.length && cok E.length c) = true := h
    simp only [Bool.and_eq_true] at h
    simp only [Pc.den, bas_ext h.1, cext h.2]
  | pr φ => rfl
  | lp id r st pd => simp only [Pc.den, bno_ext (show Nat.blt id E.length = true from h)]
  | mk id b => simp only [Pc.den, bno_ext (show Nat.blt id E.length = true from h)]
  | fz rs ds => simp only [Pc.den, ROk_same (show rslt E.length rs = true from h)]
  | mp id n l => simp only [Pc.den, bno_ext (show Nat.blt id E.length = true from h)]
theorem blt_mono {a n m : Nat} (h : Nat.blt a n = true) (hm : n ≤ m) : Nat.blt a m = true := by
  have := Nat.blt_eq.mp h; exact Nat.blt_eq.mpr (by omega)
theorem rslt_mono {n m : Nat} (hm : n ≤ m) : ∀ {r : List (Nat × Ce FM)}, rslt n r = true → rslt m r = true
  | [], _ => rfl
  | (id, c) :: r, h => by
    simp only [rslt, Bool.and_eq_true] at h ⊢
    exact ⟨⟨blt_mono h.1.1 hm, cok_mono hm h.1.2⟩, rslt_mono hm h.2⟩
theorem Pc.lt_mono {n m : Nat} {p : Pc FM} (h : p.lt n = true) (hm : n ≤ m) : p.lt m = true := by
  cases p with
  | bk id c ty =>
    have h : (Nat.blt id n && cok n c) = true := h
    simp only [Bool.and_eq_true] at h
    simp only [Pc.lt, Bool.and_eq_true]; exact ⟨blt_mono h.1 hm, cok_mono hm h.2⟩
  | sl id _ cap c e s =>
    have h : (Nat.blt id n && cok n c) = true := h
    simp only [Bool.and_eq_true] at h
    simp only [Pc.lt, Bool.and_eq_true]; exact ⟨blt_mono h.1 hm, cok_mono hm h.2⟩
  | rd id c =>
    have h : (Nat.blt id n && cok n c) = true := h
    simp only [Bool.and_eq_true] at h
    simp only [Pc.lt, Bool.and_eq_true]; exact ⟨blt_mono h.1 hm, cok_mono hm h.2⟩
  | pr φ => rfl
  | lp id r st pd => exact blt_mono (show Nat.blt id n = true from h) hm
  | mk id b => exact blt_mono (show Nat.blt id n = true from h) hm
  | fz rs ds => exact rslt_mono hm (show rslt n rs = true from h)
  | mp id k l => exact blt_mono (show Nat.blt id n = true from h) hm

/-- A slice's slice: where it begins in the other, how many elements of what size. -/
structure Vw where
  id : Nat
  base : Nat
  lo : Nat
  mx : Nat
  n : Nat
  sz : Nat

structure SS (FM : Nat → Fm) where
  T : ST FM
  E : List Ad
  m : List (Pc FM)
  V : List Vw
  R : List (Nat × Ce FM)

def SS.Td (S : SS FM) : Tab := tden S.E S.T
def mden (E : List Ad) : List (Pc FM) → Mem
  | [] => []
  | p :: m => p.den E :: mden E m
def SS.md (S : SS FM) : Mem := mden S.E S.m
def otwf : Option (TV FM) → Prop
  | some v => v.wf
  | none => True
def otlt (N : Nat) : Option (TV FM) → Bool
  | some v => v.lt N
  | none => true
def stwf : ST FM → Prop
  | [] => True
  | (_, v) :: r => otwf v ∧ stwf r
def stlt (N : Nat) : ST FM → Bool
  | [] => true
  | (_, v) :: r => otlt N v && stlt N r
def mwf : List (Pc FM) → Prop
  | [] => True
  | p :: m => p.wf ∧ mwf m
def mlt (N : Nat) : List (Pc FM) → Bool
  | [] => true
  | p :: m => p.lt N && mlt N m
def vwf (E : List Ad) : List Vw → Prop
  | [] => True
  | v :: l => (bas E v.id 0 = slA (bas E v.base 0) v.lo v.mx v.sz ∧ v.lo + v.n ≤ v.mx ∧ Nat.blt v.id E.length = true ∧ Nat.blt v.base E.length = true) ∧ vwf E l
def isbk (E : List Ad) (id : Nat) : Bool := match E[id]? with
  | some (.bk _) => true
  | _ => false
def Pc.bkok (E : List Ad) : Pc FM → Bool
  | .bk id _ _ => isbk E id
  | .lp id _ _ _ => isbk E id
  | .mk id _ => isbk E id
  | .mp id _ _ => isbk E id
  | _ => true
def mbk (E : List Ad) : List (Pc FM) → Bool
  | [] => true
  | p :: m => p.bkok E && mbk E m
theorem isbk_ext {E X : List Ad} {id : Nat} (h : isbk E id = true) : isbk (E ++ X) id = true := by
  have hl : id < E.length := by
    rcases Nat.lt_or_ge id E.length with h' | h'
    · exact h'
    · unfold isbk at h; rw [List.getElem?_eq_none h'] at h; cases h
  unfold isbk at h ⊢; rw [List.getElem?_append_left hl]; exact h
theorem bas_bk {E : List Ad} {id : Nat} (h : isbk E id = true) (o : Nat) : bas E id o = some ⟨bno E id, o, none⟩ := by
  unfold isbk at h
  unfold bas bno
  split at h
  · rename_i b hb; rw [hb]
  · cases h
theorem plc_adr (E : List Ad) (id off : Nat) : plc E id off = adr (bas E id 0) off := by
  unfold plc bas
  split
  · rw [adr_some, Nat.zero_add]
  · rfl
  · unfold adr Addr.add; by_cases h : off = 0 <;> simp [h]
theorem mbk_ext {E X : List Ad} : ∀ {m : List (Pc FM)}, mbk E m = true → mbk (E ++ X) m = true
  | [], _ => rfl
  | p :: m, h => by
    simp only [mbk, Bool.and_eq_true] at h ⊢
    refine ⟨?_, mbk_ext h.2⟩
    cases p with
    | bk id c ty => exact isbk_ext h.1
    | lp id => exact isbk_ext h.1
    | mk id => exact isbk_ext h.1
    | mp id => exact isbk_ext h.1
    | sl => rfl
    | rd => rfl
    | pr => rfl
    | fz => rfl
theorem mbk_at {E : List Ad} : ∀ {m : List (Pc FM)} {k : Nat} {p : Pc FM}, mbk E m = true → m[k]? = some p → p.bkok E = true
  | [], _, _, _, h => by simp at h
  | q :: m, 0, p, hw, h => by
    simp only [mbk, Bool.and_eq_true] at hw
    simp only [List.getElem?_cons_zero, Option.some.injEq] at h; subst h; exact hw.1
  | q :: m, k + 1, p, hw, h => by
    simp only [mbk, Bool.and_eq_true] at hw
    exact mbk_at hw.2 (by simpa using h)
theorem mbk_set {E : List Ad} : ∀ {m : List (Pc FM)} {k : Nat} {p : Pc FM}, mbk E m = true → p.bkok E = true → mbk E (m.set k p) = true
  | [], _, _, _, _ => rfl
  | q :: m, 0, p, h, hp => by
    simp only [mbk, Bool.and_eq_true] at h
    simp only [List.set_cons_zero, mbk, Bool.and_eq_true]; exact ⟨hp, h.2⟩
  | q :: m, k + 1, p, h, hp => by
    simp only [mbk, Bool.and_eq_true] at h
    simp only [List.set_cons_succ, mbk, Bool.and_eq_true]; exact ⟨h.1, mbk_set h.2 hp⟩

/-- What was handed in to be read. -/
def rwf (N : Nat) : List (Nat × Ce FM) → Prop
  | [] => True
  | (id, c) :: r => (Nat.blt id N = true ∧ cwf c ∧ cok N c = true) ∧ rwf N r
theorem rwf_mono {n m : Nat} (hm : n ≤ m) : ∀ {r : List (Nat × Ce FM)}, rwf n r → rwf m r
  | [], _ => trivial
  | (id, c) :: r, h => ⟨⟨blt_mono h.1.1 hm, h.1.2.1, cok_mono hm h.1.2.2⟩, rwf_mono hm h.2⟩
def rAt : List (Nat × Ce FM) → Nat → Option (Ce FM)
  | [], _ => none
  | (j, c) :: r, id => bif Nat.beq j id then some c else rAt r id
theorem rAt_spec {E : List Ad} {w : World} {N : Nat} : ∀ {r : List (Nat × Ce FM)} {id : Nat} {c : Ce FM}, rAt r id = some c → ROk E w r → rwf N r → (Rd w (bas E id 0) (cden E c) ∧ dRd w c) ∧ cwf c ∧ cok N c = true
  | [], _, _, h, _, _ => by simp [rAt] at h
  | (j, d) :: r, id, c, h, h1, h2 => by
    simp only [rAt, cond_eq_ite] at h
    split at h
    · rename_i hj
      have := beq_n hj; subst this
      simp only [Option.some.injEq] at h; subst h
      exact ⟨h1.1, h2.1.2⟩
    · exact rAt_spec h h1.2 h2.2
theorem ROk_ext {E X : List Ad} {w : World} : ∀ {r : List (Nat × Ce FM)}, rwf E.length r → ROk E w r → ROk (E ++ X) w r
  | [], _, _ => trivial
  | (id, c) :: r, h, hr => ⟨⟨by rw [bas_ext h.1.1, cext h.1.2.2]; exact hr.1.1, hr.1.2⟩, ROk_ext h.2 hr.2⟩

structure SS.WF (S : SS FM) : Prop where
  b : mbk S.E S.m = true
  r : rwf S.E.length S.R
  t : stwf S.T
  tl : stlt S.E.length S.T = true
  m : mwf S.m
  ml : mlt S.E.length S.m = true
  v : vwf S.E S.V

theorem stwf_look : ∀ {T : ST FM} {t : Nat} {v : TV FM}, stwf T → lookS T t = some v → v.wf
  | [], _, _, _, h => by simp [lookS] at h
  | (s, u) :: r, t, v, hw, h => by
    simp only [lookS, cond_eq_ite] at h
    split at h
    · subst h; exact hw.1
    · exact stwf_look hw.2 h
theorem stlt_look {N : Nat} : ∀ {T : ST FM} {t : Nat} {v : TV FM}, stlt N T = true → lookS T t = some v → v.lt N = true
  | [], _, _, _, h => by simp [lookS] at h
  | (s, u) :: r, t, v, hw, h => by
    simp only [stlt, Bool.and_eq_true] at hw
    simp only [lookS, cond_eq_ite] at h
    split at h
    · subst h; exact hw.1
    · exact stlt_look hw.2 h
theorem tden_ext {E X : List Ad} : ∀ {T : ST FM}, stlt E.length T = true → tden (E ++ X) T = tden E T
  | [], _ => rfl
  | (s, some v) :: r, h => by
    simp only [stlt, Bool.and_eq_true] at h
    simp only [tden, TV.ext (show v.lt E.length = true from h.1), tden_ext h.2]
  | (s, none) :: r, h => by
    simp only [stlt, Bool.and_eq_true] at h
    simp only [tden, tden_ext h.2]
theorem stlt_mono {n m : Nat} (hm : n ≤ m) : ∀ {T : ST FM}, stlt n T = true → stlt m T = true
  | [], _ => rfl
  | (s, some v) :: r, h => by
    simp only [stlt, Bool.and_eq_true] at h ⊢
    exact ⟨TV.lt_mono (show v.lt n = true from h.1) hm, stlt_mono hm h.2⟩
  | (s, none) :: r, h => by
    simp only [stlt, Bool.and_eq_true] at h ⊢
    exact ⟨rfl, stlt_mono hm h.2⟩
theorem mden_ext {E X : List Ad} : ∀ {m : List (Pc FM)}, mlt E.length m = true → mden (E ++ X) m = mden E m
  | [], _ => rfl
  | p :: m, h => by
    simp only [mlt, Bool.and_eq_true] at h
    simp only [mden, Pc.ext h.1, mden_ext h.2]
theorem mlt_mono {n k : Nat} (hm : n ≤ k) : ∀ {m : List (Pc FM)}, mlt n m = true → mlt k m = true
  | [], _ => rfl
  | p :: m, h => by
    simp only [mlt, Bool.and_eq_true] at h ⊢
    exact ⟨Pc.lt_mono h.1 hm, mlt_mono hm h.2⟩
theorem vwf_ext {E X : List Ad} : ∀ {V : List Vw}, vwf E V → vwf (E ++ X) V
  | [], _ => trivial
  | v :: l, h => by
    obtain ⟨⟨h1, h2, h3, h4⟩, h5⟩ := h
    refine ⟨⟨?_, h2, blt_mono h3 (by simp), blt_mono h4 (by simp)⟩, vwf_ext h5⟩
    rw [bas_ext h3, bas_ext h4]; exact h1

/-- A piece, and where it stands. -/
def pcAt : List (Pc FM) → Nat → Option (Nat × Pc FM)
  | [], _ => none
  | p :: m, id => match p.id? with
    | some j => bif Nat.beq j id then some (0, p) else (pcAt m id).map fun (k, q) => (k + 1, q)
    | none => (pcAt m id).map fun (k, q) => (k + 1, q)
theorem pcAt_spec {E : List Ad} : ∀ {m : List (Pc FM)} {id k : Nat} {p : Pc FM}, pcAt m id = some (k, p) → m[k]? = some p ∧ (mden E m)[k]? = some (p.den E) ∧ p.id? = some id
  | [], _, _, _, h => by simp [pcAt] at h
  | q :: m, id, k, p, h => by
    simp only [pcAt] at h
    have rec_ : ∀ {o}, Option.map (fun (x : Nat × Pc FM) => (x.1 + 1, x.2)) (pcAt m id) = some o → o = (k, p) → (q :: m)[k]? = some p ∧ (mden E (q :: m))[k]? = some (p.den E) ∧ p.id? = some id := by
      intro o ho e
      subst e
      obtain ⟨⟨k', q'⟩, hr, h⟩ := Option.map_eq_some_iff.1 ho
      simp only [Prod.mk.injEq] at h
      obtain ⟨rfl, rfl⟩ := h
      obtain ⟨h1, h2, h3⟩ := pcAt_spec hr
      exact ⟨by simpa using h1, by simpa [mden] using h2, h3⟩
    split at h
    · rename_i j hj
      simp only [cond_eq_ite] at h
      split at h
      · rename_i hc
        have := beq_n hc; subst this
        simp only [Option.some.injEq, Prod.mk.injEq] at h
        obtain ⟨rfl, rfl⟩ := h
        exact ⟨rfl, rfl, hj⟩
      · exact rec_ h rfl
    · exact rec_ h rfl
theorem mwf_at : ∀ {m : List (Pc FM)} {k : Nat} {p : Pc FM}, mwf m → m[k]? = some p → p.wf
  | [], _, _, _, h => by simp at h
  | q :: m, 0, p, hw, h => by simp only [List.getElem?_cons_zero, Option.some.injEq] at h; subst h; exact hw.1
  | q :: m, k + 1, p, hw, h => mwf_at hw.2 (by simpa using h)
theorem mlt_at {N : Nat} : ∀ {m : List (Pc FM)} {k : Nat} {p : Pc FM}, mlt N m = true → m[k]? = some p → p.lt N = true
  | [], _, _, _, h => by simp at h
  | q :: m, 0, p, hw, h => by
    simp only [mlt, Bool.and_eq_true] at hw
    simp only [List.getElem?_cons_zero, Option.some.injEq] at h; subst h; exact hw.1
  | q :: m, k + 1, p, hw, h => by
    simp only [mlt, Bool.and_eq_true] at hw
    exact mlt_at hw.2 (by simpa using h)
theorem mden_set {E : List Ad} : ∀ {m : List (Pc FM)} {k : Nat} {p : Pc FM}, mden E (m.set k p) = (mden E m).set k (p.den E)
  | [], _, _ => rfl
  | q :: m, 0, p => rfl
  | q :: m, k + 1, p => by simp only [List.set_cons_succ, mden, mden_set (m := m)]
theorem mwf_set : ∀ {m : List (Pc FM)} {k : Nat} {p : Pc FM}, mwf m → p.wf → mwf (m.set k p)
  | [], _, _, _, _ => trivial
  | q :: m, 0, p, h, hp => ⟨hp, h.2⟩
  | q :: m, k + 1, p, h, hp => ⟨h.1, mwf_set h.2 hp⟩
theorem mlt_set {N : Nat} : ∀ {m : List (Pc FM)} {k : Nat} {p : Pc FM}, mlt N m = true → p.lt N = true → mlt N (m.set k p) = true
  | [], _, _, _, _ => rfl
  | q :: m, 0, p, h, hp => by
    simp only [mlt, Bool.and_eq_true] at h
    simp only [List.set_cons_zero, mlt, Bool.and_eq_true]; exact ⟨hp, h.2⟩
  | q :: m, k + 1, p, h, hp => by
    simp only [mlt, Bool.and_eq_true] at h
    simp only [List.set_cons_succ, mlt, Bool.and_eq_true]; exact ⟨h.1, mlt_set h.2 hp⟩

/-! ### What a piece reads as -/
theorem Rd.bkr {M : Nat → Prop} {w0 w : World} {m : Mem} (H : Hp M w0 w m) {k b T : Nat} {cs : List Value} (hm : m[k]? = some (.bk b (row cs T))) : Rd w (some ⟨b, 0, none⟩) cs :=
  Rd.of_ent H (off := 0) (n := cs.length) hm (by simp)

/-- Of cells, the elements from one on. -/
def vcut (c : Ce FM) (lo n sz : Nat) : Option (Ce FM × Nat) := match c with
  | [.b (.iz k l m)] => bif Nat.beq sz 1 then some ([.b (.iz k ((l.drop lo).take n) n)], m) else none
  | [.f j l m] => bif Nat.beq sz (FM j).sz then some ([.f j ((l.drop lo).take n) n], m) else none
  | _ => none
theorem fden_drop {F : Fm} : ∀ {l : List F.α} (n : Nat), (∀ a ∈ l, F.wf a) → fden F (l.drop n) = (fden F l).drop (n * F.sz)
  | l, 0, _ => by simp
  | [], n + 1, _ => by simp [fden]
  | a :: l, n + 1, h => by
    have h1 := c0len (E := []) ((F.hwf a).1 (h a (by simp)))
    rw [F.hsz] at h1
    have ih := fden_drop (F := F) (l := l) n (fun b hb => h b (by simp [hb]))
    simp only [List.drop_succ_cons, fden, Nat.succ_mul]
    rw [ih, List.drop_append, show (c0den [] (F.sg a)).drop (n * F.sz + F.sz) = [] from List.drop_of_length_le (by omega), List.nil_append, h1]
    congr 1; omega
theorem fden_take {F : Fm} : ∀ {l : List F.α} (n : Nat), (∀ a ∈ l, F.wf a) → fden F (l.take n) = (fden F l).take (n * F.sz)
  | l, 0, _ => by simp [fden]
  | [], n + 1, _ => by simp [fden]
  | a :: l, n + 1, h => by
    have h1 := c0len (E := []) ((F.hwf a).1 (h a (by simp)))
    rw [F.hsz] at h1
    have ih := fden_take (F := F) (l := l) n (fun b hb => h b (by simp [hb]))
    simp only [List.take_succ_cons, fden, Nat.succ_mul]
    rw [ih, List.take_append, show (c0den [] (F.sg a)).take (n * F.sz + F.sz) = c0den [] (F.sg a) from List.take_of_length_le (by omega), h1]
    congr 2; omega
theorem vcut_spec {E : List Ad} {N : Nat} {c r : Ce FM} {lo n sz m : Nat} (h : vcut c lo n sz = some (r, m)) (hw : cwf c) (hn : lo + n ≤ m) :
    ((cden E c).drop (lo * sz)).take (n * sz) = cden E r ∧ cwf r ∧ cok N r = true := by
  unfold vcut at h
  split at h
  · rename_i k l m'
    simp only [cond_eq_ite] at h
    split at h
    · rename_i hc
      have := beq_n hc; subst this
      simp only [Option.some.injEq, Prod.mk.injEq] at h
      obtain ⟨rfl, rfl⟩ := h
      have hw : l.length = m' := hw.1
      refine ⟨by simp [cden, Sg.den, Sg0.den, iv, List.map_drop, List.map_take], ⟨?_, trivial⟩, rfl⟩
      simp [Sg.wf, Sg0.wf]; omega
    · cases h
  · rename_i j l m'
    simp only [cond_eq_ite] at h
    split at h
    · rename_i hc
      have := beq_n hc; subst this
      simp only [Option.some.injEq, Prod.mk.injEq] at h
      obtain ⟨rfl, rfl⟩ := h
      obtain ⟨h1, h2⟩ := hw.1
      refine ⟨?_, ⟨⟨by simp; omega, fun a ha => h2 a (List.mem_of_mem_drop (List.mem_of_mem_take ha))⟩, trivial⟩, rfl⟩
      simp only [cden, Sg.den, List.append_nil]
      rw [fden_take n (fun a ha => h2 a (List.mem_of_mem_drop ha)), fden_drop lo h2]
    · cases h
  · cases h

def viewOf : List Vw → Nat → Option Vw
  | [], _ => none
  | v :: l, id => bif Nat.beq v.id id then some v else viewOf l id
theorem viewOf_spec {E : List Ad} : ∀ {V : List Vw} {id : Nat} {v : Vw}, viewOf V id = some v → vwf E V → v.id = id ∧ bas E id 0 = slA (bas E v.base 0) v.lo v.mx v.sz ∧ v.lo + v.n ≤ v.mx
  | [], _, _, h, _ => by simp [viewOf] at h
  | u :: l, id, v, h, hw => by
    simp only [viewOf, cond_eq_ite] at h
    split at h
    · rename_i hc
      have := beq_n hc; subst this
      simp only [Option.some.injEq] at h; subst h
      exact ⟨rfl, hw.1.1, hw.1.2.1⟩
    · exact viewOf_spec h hw.2

/-- The content of what is no longer written. -/
def fzAt : List (Pc FM) → Nat → Option (Ce FM)
  | [], _ => none
  | .fz rs _ :: m, id => match rAt rs id with
    | some c => some c
    | none => fzAt m id
  | _ :: m, id => fzAt m id
/-- The cells behind an address, and what must hold. -/
def rdOf (m : List (Pc FM)) (V : List Vw) (R : List (Nat × Ce FM)) : Nat → Nat → Option (Ce FM × List Prop)
  | 0, _ => none
  | f + 1, id => match pcAt m id with
    | some (_, p) => some (p.ce, [])
    | none => match rAt R id with
      | some c => some (c, [])
      | none => match fzAt m id with
      | some c => some (c, [])
      | none => match viewOf V id with
      | some v => (rdOf m V R f v.base).bind fun (c, φs) => (vcut c v.lo v.n v.sz).map fun (r, k) => (r, (v.lo + v.n ≤ k) :: φs)
      | none => none

def All : List Prop → Prop
  | [] => True
  | p :: l => p ∧ All l
theorem All_append : ∀ {a b : List Prop}, All (a ++ b) ↔ All a ∧ All b
  | [], b => by simp [All]
  | p :: a, b => by simp [All, All_append (a := a), and_assoc]

theorem pc_rd {M : Nat → Prop} {w0 w : World} {E : List Ad} {m : List (Pc FM)} (H : Hp M w0 w (mden E m)) (hb : mbk E m = true) {k id : Nat} {p : Pc FM} (h : pcAt m id = some (k, p)) :
    Rd w (bas E id 0) (cden E p.ce) := by
  obtain ⟨h1, h2, hi⟩ := pcAt_spec (E := E) h
  have hbk := mbk_at hb h1
  cases p with
  | bk id' c ty =>
    simp only [Pc.id?, Option.some.injEq] at hi; subst hi
    rw [bas_bk hbk]
    exact Rd.bkr H h2
  | sl id' n cap c e s =>
    simp only [Pc.id?, Option.some.injEq] at hi; subst hi
    exact Rd.sl H k h2
  | rd id' c =>
    simp only [Pc.id?, Option.some.injEq] at hi; subst hi
    exact H.pr k h2
  | pr φ => simp [Pc.id?] at hi
  | lp id' r st pd => exact Rd.nil _ _
  | mk id' b => exact Rd.nil _ _
  | mp id' n l => exact Rd.nil _ _
  | fz rs ds => simp [Pc.id?] at hi

/-- What holds of memory. -/
structure HS (M : Nat → Prop) (w0 w : World) (S : SS FM) : Prop where
  hp : Hp M w0 w S.md
  rd : ROk S.E w S.R

theorem rwf_of {N : Nat} : ∀ {r : List (Nat × Ce FM)}, rswf r → rslt N r = true → rwf N r
  | [], _, _ => trivial
  | (id, c) :: r, h, k => by
    simp only [rslt, Bool.and_eq_true] at k
    exact ⟨⟨k.1.1, h.1, k.1.2⟩, rwf_of h.2 k.2⟩
theorem fzAt_spec {M : Nat → Prop} {w0 w : World} {E : List Ad} {N : Nat} : ∀ {m : List (Pc FM)} {id : Nat} {c : Ce FM}, fzAt m id = some c → Hp M w0 w (mden E m) → mwf m → mlt N m = true →
    (Rd w (bas E id 0) (cden E c) ∧ dRd w c) ∧ cwf c ∧ cok N c = true
  | [], _, _, h, _, _, _ => by simp [fzAt] at h
  | p :: m, id, c, h, H, hw, hl => by
    have hl' := hl
    simp only [mlt, Bool.and_eq_true] at hl'
    have rec_ : fzAt m id = some c → (Rd w (bas E id 0) (cden E c) ∧ dRd w c) ∧ cwf c ∧ cok N c = true := fun h => fzAt_spec h (H.sub (List.sublist_cons_self _ _)) hw.2 hl'.2
    cases p with
    | fz rs ds =>
      simp only [fzAt] at h
      split at h
      · rename_i c' hc
        simp only [Option.some.injEq] at h; subst h
        exact rAt_spec hc (H.pr 0 rfl).1 (rwf_of hw.1 hl'.1)
      · exact rec_ h
    | _ => exact rec_ h

theorem rdOf_spec {S : SS FM} (hS : S.WF) {M : Nat → Prop} {w0 w : World} (H : HS M w0 w S) : ∀ {f id : Nat} {c : Ce FM} {φs : List Prop}, rdOf S.m S.V S.R f id = some (c, φs) → All φs →
    Rd w (bas S.E id 0) (cden S.E c) ∧ cwf c ∧ cok S.E.length c = true
  | 0, _, _, _, h, _ => by simp [rdOf] at h
  | f + 1, id, c, φs, h, hφ => by
    simp only [rdOf] at h
    split at h
    · rename_i k p hp
      simp only [Option.some.injEq, Prod.mk.injEq] at h
      obtain ⟨rfl, rfl⟩ := h
      obtain ⟨h1, h2, h3⟩ := pcAt_spec (E := S.E) hp
      have hw := mwf_at hS.m h1
      have hl := mlt_at hS.ml h1
      refine ⟨pc_rd H.hp hS.b hp, ?_, ?_⟩
      · cases p <;> first | exact hw | trivial
      · cases p with
        | bk id c ty => have hl : (Nat.blt id S.E.length && cok S.E.length c) = true := hl; simp only [Bool.and_eq_true] at hl; exact hl.2
        | sl id n cap c e s => have hl : (Nat.blt id S.E.length && cok S.E.length c) = true := hl; simp only [Bool.and_eq_true] at hl; exact hl.2
        | rd id c => have hl : (Nat.blt id S.E.length && cok S.E.length c) = true := hl; simp only [Bool.and_eq_true] at hl; exact hl.2
        | pr φ => rfl
        | lp id r st pd => rfl
        | mk id b => rfl
        | mp id n l => rfl
        | fz rs ds => rfl
    · split at h
      · rename_i c' hc'
        simp only [Option.some.injEq, Prod.mk.injEq] at h
        obtain ⟨rfl, rfl⟩ := h
        obtain ⟨⟨z1, -⟩, z2⟩ := rAt_spec hc' H.rd hS.r
        exact ⟨z1, z2⟩
      split at h
      · rename_i c' hc'
        simp only [Option.some.injEq, Prod.mk.injEq] at h
        obtain ⟨rfl, rfl⟩ := h
        obtain ⟨⟨z1, -⟩, z2⟩ := fzAt_spec hc' H.hp hS.m hS.ml
        exact ⟨z1, z2⟩
      split at h
      · rename_i v hv
        obtain ⟨⟨c', φ'⟩, hc, h⟩ := Option.bind_eq_some_iff.1 h
        obtain ⟨⟨r, k⟩, hr, h⟩ := Option.map_eq_some_iff.1 h
        simp only [Prod.mk.injEq] at h
        obtain ⟨rfl, rfl⟩ := h
        obtain ⟨h1, h2, h3⟩ := viewOf_spec hv hS.v
        obtain ⟨q1, q2, q3⟩ := rdOf_spec hS H hc hφ.2
        obtain ⟨g1, g2, g3⟩ := vcut_spec (E := S.E) (N := S.E.length) hr q2 hφ.1
        refine ⟨?_, g2, g3⟩
        rw [h2]
        refine q1.slA (k := v.n * v.sz) (by omega) g1 fun e => ?_
        have : v.n = 0 := by omega
        rw [this] at g1
        rw [← g1]; simp
      · cases h

/-- The cells behind an address that was handed in to be read. -/
def rdR (V : List Vw) (R : List (Nat × Ce FM)) : Nat → Nat → Option (Ce FM × List Prop)
  | 0, _ => none
  | f + 1, id => match rAt R id with
    | some c => some (c, [])
    | none => match viewOf V id with
      | some v => (rdR V R f v.base).bind fun (c, φs) => (vcut c v.lo v.n v.sz).map fun (r, k) => (r, (v.lo + v.n ≤ k) :: φs)
      | none => none
theorem dRd_cut {w : World} {c r : Ce FM} {lo n sz m : Nat} (h : vcut c lo n sz = some (r, m)) (hd : dRd w c) : dRd w r := by
  unfold vcut at h
  split at h
  · simp only [cond_eq_ite] at h
    split at h
    · simp only [Option.some.injEq, Prod.mk.injEq] at h
      obtain ⟨rfl, rfl⟩ := h
      trivial
    · cases h
  · simp only [cond_eq_ite] at h
    split at h
    · simp only [Option.some.injEq, Prod.mk.injEq] at h
      obtain ⟨rfl, rfl⟩ := h
      exact ⟨fun a ha => hd.1 a (List.mem_of_mem_drop (List.mem_of_mem_take ha)), trivial⟩
    · cases h
  · cases h
theorem rdR_spec {E : List Ad} {V : List Vw} {R : List (Nat × Ce FM)} {w : World} (hV : vwf E V) (hR : rwf E.length R) (H : ROk E w R) : ∀ {f id : Nat} {c : Ce FM} {φs : List Prop}, rdR V R f id = some (c, φs) → All φs →
    (Rd w (bas E id 0) (cden E c) ∧ dRd w c) ∧ cwf c ∧ cok E.length c = true
  | 0, _, _, _, h, _ => by simp [rdR] at h
  | f + 1, id, c, φs, h, hφ => by
    simp only [rdR] at h
    split at h
    · rename_i c' hc'
      simp only [Option.some.injEq, Prod.mk.injEq] at h
      obtain ⟨rfl, rfl⟩ := h
      exact rAt_spec hc' H hR
    · split at h
      · rename_i v hv
        obtain ⟨⟨c', φ'⟩, hc, h⟩ := Option.bind_eq_some_iff.1 h
        obtain ⟨⟨r, k⟩, hr, h⟩ := Option.map_eq_some_iff.1 h
        simp only [Prod.mk.injEq] at h
        obtain ⟨rfl, rfl⟩ := h
        obtain ⟨h1, h2, h3⟩ := viewOf_spec hv hV
        obtain ⟨⟨q1, q4⟩, q2, q3⟩ := rdR_spec hV hR H hc hφ.2
        obtain ⟨g1, g2, g3⟩ := vcut_spec (E := E) (N := E.length) hr q2 hφ.1
        refine ⟨⟨?_, dRd_cut hr q4⟩, g2, g3⟩
        rw [h2]
        refine q1.slA (k := v.n * v.sz) (by omega) g1 fun e => ?_
        have : v.n = 0 := by omega
        rw [this] at g1
        rw [← g1]; simp
      · cases h
end
end Go.Px
end
section
/-
  The operations that yield a value, over states that are told by their shape. No condition.
-/
set_option linter.all false
namespace Go.Px
open Go.RowKit

/-! ### Constants -/
inductive Sh where
  | c
  | z (k : IntKind) (n : Nat)
  | f (j n : Nat)

def shpF (g : TypeId → Option (List Sh)) : List Field → Option (List Sh)
  | [] => some []
  | f :: fs => match g f.type, shpF g fs with
    | some a, some b => some (a ++ b)
    | _, _ => none
def rep {α : Type} (l : List α) : Nat → List α
  | 0 => []
  | n + 1 => l ++ rep l n
def asc : List (Nat × Nat) → Nat → Option Nat
  | [], _ => none
  | (a, b) :: r, t => bif Nat.beq a t then some b else asc r t
/-- A type's shape. -/
def shp (P : Program) (fm : List (Nat × Nat)) : Nat → TypeId → Option (List Sh)
  | 0, _ => none
  | d + 1, t => match P.underlying t with
    | some (.struct fs) => shpF (shp P fm d) fs.toList
    | some (.array n e) => match P.underlying e with
      | some (.int k) => some [.z k n]
      | _ => match asc fm e with
        | some j => some [.f j n]
        | none => (shp P fm d e).map fun s => rep s n
    | some _ => some [.c]
    | none => none

def veq : Value → Value → Bool
  | .int k a, .int k' b => decide (k = k') && decide (a = b)
  | .bool a, .bool b => a == b
  | .slice none 0 0, .slice none 0 0 => true
  | _, _ => false
theorem veq_spec {a b : Value} (h : veq a b = true) : a = b := by
  unfold veq at h
  split at h
  · simp only [Bool.and_eq_true, decide_eq_true_eq] at h
    obtain ⟨rfl, rfl⟩ := h; rfl
  · simp only [beq_iff_eq] at h; subst h; rfl
  · rfl
  · cases h
def strip : List Value → List Value → Option (List Value)
  | [], l => some l
  | a :: z, b :: l => bif veq a b then strip z l else none
  | _ :: _, [] => none
theorem strip_spec : ∀ {z l r : List Value}, strip z l = some r → l = z ++ r
  | [], l, r, h => by simp [strip] at h; exact h
  | a :: z, b :: l, r, h => by
    simp only [strip, cond_eq_ite] at h
    split at h
    · rename_i hc
      have := veq_spec hc; subst this
      rw [strip_spec h]; rfl
    · cases h
  | _ :: _, [], _, h => by simp [strip] at h
def tkz (k : IntKind) : Nat → List Value → Option (List Int × List Value)
  | 0, l => some ([], l)
  | n + 1, .int k' x :: l => bif decide (k = k') then (tkz k n l).map fun (a, r) => (x :: a, r) else none
  | _ + 1, _ => none
theorem tkz_spec {k : IntKind} : ∀ {n : Nat} {l : List Value} {a : List Int} {r : List Value}, tkz k n l = some (a, r) → l = iv k a ++ r ∧ a.length = n
  | 0, l, a, r, h => by
    simp only [tkz, Option.some.injEq, Prod.mk.injEq] at h
    obtain ⟨rfl, rfl⟩ := h
    exact ⟨rfl, rfl⟩
  | n + 1, l, a, r, h => by
    unfold tkz at h
    split at h
    · rename_i e; exact absurd e (Nat.succ_ne_zero _)
    · rename_i m k' x l' e
      simp only [Nat.succ.injEq] at e; subst e
      simp only [cond_eq_ite] at h
      split at h
      · rename_i hc
        have := of_decide_eq_true hc; subst this
        obtain ⟨⟨a', r'⟩, hr, h⟩ := Option.map_eq_some_iff.1 h
        simp only [Prod.mk.injEq] at h
        obtain ⟨rfl, rfl⟩ := h
        obtain ⟨g1, g2⟩ := tkz_spec hr
        exact ⟨by rw [g1]; rfl, by simp [g2]⟩
      · cases h
    · cases h
def zl (a : List Int) (n : Nat) : List Int := bif a.all (fun x => decide (x = 0)) then List.replicate n 0 else a
theorem zl_spec {a : List Int} {n : Nat} (h : a.length = n) : zl a n = a := by
  unfold zl
  simp only [cond_eq_ite]
  split
  · rename_i hc
    rw [List.all_eq_true] at hc
    refine (List.eq_replicate_iff.2 ⟨h, fun b hb => ?_⟩).symm
    exact of_decide_eq_true (hc b hb)
  · rfl

section
variable {FM : Nat → Fm}

def stripN (z : List Value) : Nat → List Value → Option (List Value)
  | 0, l => some l
  | n + 1, l => (strip z l).bind (stripN z n)
theorem stripN_spec {F : Fm} : ∀ {n : Nat} {l r : List Value}, stripN (c0den [] (F.sg F.d)) n l = some r → l = fden F (List.replicate n F.d) ++ r
  | 0, l, r, h => by simp [stripN] at h; subst h; rfl
  | n + 1, l, r, h => by
    obtain ⟨l', h1, h2⟩ := Option.bind_eq_some_iff.1 h
    rw [strip_spec h1, stripN_spec h2]
    simp [List.replicate_succ, fden]

/-- Cells that are at hand, put into a shape. -/
def rg : List Sh → List Value → Option (Ce FM × List Value)
  | [], l => some ([], l)
  | .c :: s, x :: l => bif x.oneCell' then (rg s l).map fun (c, r) => (.b (.cl (.xv x)) :: c, r) else none
  | .c :: _, [] => none
  | .z k n :: s, l => (tkz k n l).bind fun (a, l) => (rg s l).map fun (c, r) => (.b (.iz k (zl a n) n) :: c, r)
  | .f j n :: s, l => (stripN (c0den [] ((FM j).sg (FM j).d)) n l).bind fun l => (rg s l).map fun (c, r) => (.f j (List.replicate n (FM j).d) n :: c, r)
theorem rg_spec {E : List Ad} {N : Nat} : ∀ {s : List Sh} {l r : List Value} {c : Ce FM}, rg s l = some (c, r) → l = cden E c ++ r ∧ cwf c ∧ cok N c = true
  | [], l, r, c, h => by
    simp only [rg, Option.some.injEq, Prod.mk.injEq] at h
    obtain ⟨rfl, rfl⟩ := h
    exact ⟨rfl, trivial, rfl⟩
  | .c :: s, x :: l, r, c, h => by
    simp only [rg, cond_eq_ite] at h
    split at h
    · rename_i hc
      obtain ⟨⟨c', r'⟩, hr, h⟩ := Option.map_eq_some_iff.1 h
      simp only [Prod.mk.injEq] at h
      obtain ⟨rfl, rfl⟩ := h
      obtain ⟨g1, g2, g3⟩ := rg_spec (E := E) (N := N) hr
      exact ⟨by rw [g1]; rfl, ⟨trivial, g2⟩, by simp [cok, Sg.ok, Sg0.ok, S0.ok, S0.lt, hc, g3]⟩
    · cases h
  | .c :: _, [], _, _, h => by simp [rg] at h
  | .z k n :: s, l, r, c, h => by
    obtain ⟨⟨a, l'⟩, ha, h⟩ := Option.bind_eq_some_iff.1 h
    obtain ⟨⟨c', r'⟩, hr, h⟩ := Option.map_eq_some_iff.1 h
    simp only [Prod.mk.injEq] at h
    obtain ⟨rfl, rfl⟩ := h
    obtain ⟨g1, g2, g3⟩ := rg_spec (E := E) (N := N) hr
    obtain ⟨q1, q2⟩ := tkz_spec ha
    rw [zl_spec q2]
    refine ⟨by rw [q1, g1]; simp [cden, Sg.den, Sg0.den], ⟨q2, g2⟩, by simp [cok, Sg.ok, Sg0.ok, g3]⟩
  | .f j n :: s, l, r, c, h => by
    obtain ⟨l', ha, h⟩ := Option.bind_eq_some_iff.1 h
    obtain ⟨⟨c', r'⟩, hr, h⟩ := Option.map_eq_some_iff.1 h
    simp only [Prod.mk.injEq] at h
    obtain ⟨rfl, rfl⟩ := h
    obtain ⟨g1, g2, g3⟩ := rg_spec (E := E) (N := N) hr
    refine ⟨by rw [stripN_spec ha, g1]; simp [cden, Sg.den], ⟨⟨by simp, fun a ha => ?_⟩, g2⟩, by simp [cok, Sg.ok, g3]⟩
    rw [List.eq_of_mem_replicate ha]; exact (FM j).hd
def rgA (s : List Sh) (l : List Value) : Option (Ce FM) := match rg s l with
  | some (c, []) => some c
  | _ => none
theorem rgA_spec {E : List Ad} {N : Nat} {s : List Sh} {l : List Value} {c : Ce FM} (h : rgA s l = some c) : l = cden E c ∧ cwf c ∧ cok N c = true := by
  unfold rgA at h
  split at h
  · rename_i c' hr
    simp only [Option.some.injEq] at h; subst h
    obtain ⟨g1, g2, g3⟩ := rg_spec (E := E) (N := N) hr
    exact ⟨by simpa using g1, g2, g3⟩
  · cases h

/-- A shape for cells at hand, if no type tells one. -/
def cntz (k : IntKind) : List Value → Nat
  | .int k' _ :: l => bif decide (k = k') then cntz k l + 1 else 0
  | _ => 0
def shOf : Nat → List Value → List Sh
  | 0, _ => []
  | _, [] => []
  | d + 1, .int k x :: l => bif Nat.ble 4 (cntz k (.int k x :: l)) then .z k (cntz k (.int k x :: l)) :: shOf d ((.int k x :: l).drop (cntz k (.int k x :: l))) else .c :: shOf d l
  | d + 1, _ :: l => .c :: shOf d l

/-- What a program's walks are told once and for all: the forms of types' elements, and of what kinds no result wraps. -/
structure Cx where
  P : Program
  fm : List (Nat × Nat)
  nw : List IntKind

def cst (X : Cx) (ty : Option TypeId) (v : Value) : Option (TV FM) := match v with
  | .agg a => match ty.bind (shp X.P X.fm 30) with
    | some s => match rgA s a.toList with
      | some c => some (.v (.ag c))
      | none => (rgA (shOf (a.toList.length) a.toList) a.toList).map fun c => .v (.ag c)
    | none => (rgA (shOf (a.toList.length) a.toList) a.toList).map fun c => .v (.ag c)
  | .tuple _ => none
  | .bool b => some (.v (.one (.kb b)))
  | .string s => some (.v (.one (.st (s.data.toList.map fun u => (u.toNat : Int)))))
  | v => some (.v (.one (.xv v)))
def evS (X : Cx) (S : SS FM) (ty : Option TypeId) : Operand → Option (TV FM)
  | .tmp t => lookS S.T t
  | .const v => cst X ty v
  | .global g => some (.v (.one (.xv (.pointer (some ⟨g, 0, none⟩)))))
  | .func f => some (.fn f [] [])

theorem strOf' (s : ByteArray) : strOfNums (s.data.toList.map fun u => (u.toNat : Int)) = s := by
  obtain ⟨d⟩ := s
  unfold strOfNums
  congr 1
  apply Array.ext'
  rw [List.map_map]
  exact List.map_id'' (fun u => by simp only [Function.comp, Int.toNat_natCast, UInt8.ofNat_toNat]) _

theorem cst_spec {X : Cx} {ty : Option TypeId} {v : Value} {t : TV FM} (E : List Ad) (N : Nat) (h : cst X ty v = some t) : t.den E = v ∧ t.wf ∧ t.lt N = true := by
  unfold cst at h
  have fin : ∀ {s : List Sh} {a : Array Value} {c : Ce FM}, rgA s a.toList = some c → (TV.v (.ag c)).den E = .agg a ∧ (TV.v (.ag c)).wf ∧ (TV.v (.ag c)).lt N = true := by
    intro s a c h
    obtain ⟨g1, g2, g3⟩ := rgA_spec (E := E) (N := N) h
    exact ⟨by simp only [TV.den, SV.den]; rw [← g1], g2, g3⟩
  split at h
  · rename_i a
    split at h
    · split at h
      · rename_i hr
        simp only [Option.some.injEq] at h; subst h
        exact fin hr
      · obtain ⟨c, hr, rfl⟩ := Option.map_eq_some_iff.1 h
        exact fin hr
    · obtain ⟨c, hr, rfl⟩ := Option.map_eq_some_iff.1 h
      exact fin hr
  · cases h
  · simp only [Option.some.injEq] at h; subst h
    exact ⟨rfl, trivial, rfl⟩
  · simp only [Option.some.injEq] at h; subst h
    refine ⟨?_, trivial, rfl⟩
    simp only [TV.den, SV.den, S0.den]
    exact congrArg Value.string (strOf' _)
  · simp only [Option.some.injEq] at h; subst h
    exact ⟨rfl, trivial, rfl⟩

theorem evS_spec {X : Cx} {S : SS FM} (hS : S.WF) {ty : Option TypeId} {x : Operand} {t : TV FM} (h : evS X S ty x = some t) : evT S.Td x = some (t.den S.E) ∧ t.wf ∧ t.lt S.E.length = true := by
  cases x with
  | tmp i =>
    simp only [evS] at h
    simp only [evT, SS.Td, lookS_den, h, Option.map_some]
    exact ⟨trivial, stwf_look hS.t h, stlt_look hS.tl h⟩
  | const v =>
    obtain ⟨g1, g2, g3⟩ := cst_spec S.E S.E.length h
    exact ⟨by rw [g1]; rfl, g2, g3⟩
  | global g =>
    simp only [evS, Option.some.injEq] at h; subst h
    exact ⟨rfl, trivial, rfl⟩
  | func f =>
    simp only [evS, Option.some.injEq] at h; subst h
    refine ⟨?_, ⟨trivial, trivial⟩, ?_⟩
    · simp [evT, TV.den]
    · simp [TV.lt, svlt]

/-! ### Loads -/
def ldS (P : Program) (ty : TypeId) (g : Nat → Option (Ce FM)) : Option (SV FM) := match aggB P ty with
  | some true => (sizeB P ty).bind fun n => (g n).map .ag
  | some false => match g 1 with
    | some [.b (.cl x)] => some (.one x)
    | some [.b (.iz k l _)] => some (.one (.xv (.int k (l.getD 0 0))))
    | _ => none
  | none => none

theorem ldS_spec {P : Program} {ty : TypeId} {g : Nat → Option (Ce FM)} {v : SV FM} {E : List Ad} {N : Nat} {cs : List Value} {off : Nat} (h : ldS P ty g = some v)
    (hg : ∀ n c, g n = some c → (cs.drop off).take n = cden E c ∧ cwf c ∧ cok N c = true ∧ cn c = n ∧ off + n ≤ cs.length) :
    v.wf ∧ v.lt N = true ∧ ((aggB P ty = some false ∧ cs[off]? = some (v.den E)) ∨ (∃ n, aggB P ty = some true ∧ sizeB P ty = some n ∧ off + n ≤ cs.length ∧ v.den E = .agg ((cs.drop off).take n).toArray)) := by
  have one : ∀ {v : Value}, (cs.drop off).take 1 = [v] → cs[off]? = some v := by
    intro v h
    have : ((cs.drop off).take 1)[0]? = some v := by rw [h]; rfl
    rw [List.getElem?_take, if_pos (by omega), List.getElem?_drop] at this
    simpa using this
  unfold ldS at h
  split at h
  · rename_i ha
    obtain ⟨n, hn, h⟩ := Option.bind_eq_some_iff.1 h
    obtain ⟨c, hc, rfl⟩ := Option.map_eq_some_iff.1 h
    obtain ⟨g1, g2, g3, g4, g5⟩ := hg n c hc
    exact ⟨g2, g3, .inr ⟨n, ha, hn, g5, by rw [g1]; rfl⟩⟩
  · rename_i ha
    split at h
    · rename_i x hx
      simp only [Option.some.injEq] at h; subst h
      obtain ⟨g1, g2, g3, g4, g5⟩ := hg 1 _ hx
      simp only [cok, Sg.ok, Sg0.ok, Bool.and_eq_true] at g3
      exact ⟨trivial, g3.1.2, .inl ⟨ha, one g1⟩⟩
    · rename_i k l m hx
      simp only [Option.some.injEq] at h; subst h
      obtain ⟨g1, g2, g3, g4, g5⟩ := hg 1 _ hx
      have hl : l.length = m := g2.1
      simp only [cn, Sg.n, Sg0.n, Nat.add_zero] at g4
      refine ⟨trivial, rfl, .inl ⟨ha, one ?_⟩⟩
      rw [g1]
      obtain ⟨y, rfl⟩ : ∃ y, l = [y] := List.length_eq_one_iff.1 (by omega)
      rfl
    · cases h
  · cases h

def cdynm (c : Ce FM) (o i st : Nat) : Option Nat := (catq c o).bind fun (_, x, _) => (x.elem i st).map (·.2)
def dynG (c : Ce FM) (o i st o2 n : Nat) : Option (Ce FM) := (cdyn c o i st o2 n).map fun x => up0 x.1
theorem cdynm_of {c : Ce FM} {o i st o2 n m m' : Nat} {r : List Sg0} (h : cdyn c o i st o2 n = some (r, m)) (h' : cdynm c o i st = some m') : m = m' := by
  obtain ⟨⟨a, x, b⟩, h1, h⟩ := Option.bind_eq_some_iff.1 h
  obtain ⟨⟨e, m2⟩, h2, h⟩ := Option.bind_eq_some_iff.1 h
  obtain ⟨r', h3, h⟩ := Option.map_eq_some_iff.1 h
  simp only [Prod.mk.injEq] at h
  obtain ⟨rfl, rfl⟩ := h
  simp only [cdynm, h1, Option.bind_some, h2, Option.map_some, Option.some.injEq] at h'
  exact h'

def loadS (P : Program) (S : SS FM) (ty : TypeId) : S0 → Option (List Prop × SV FM)
  | .pt id off => (rdOf S.m S.V S.R 9 id).bind fun (c, φs) => (ldS P ty (csub c off)).map fun v => (φs, v)
  | .qt id o i st o2 => (rdOf S.m S.V S.R 9 id).bind fun (c, φs) => (cdynm c o i st).bind fun m => (ldS P ty (dynG c o i st o2)).map fun v => ((i < m) :: φs, v)
  | _ => none

theorem loadS_spec {P : Program} {S : SS FM} (hS : S.WF) {M : Nat → Prop} {w0 w : World} (H : HS M w0 w S) {ty : TypeId} {x : S0} {φs : List Prop} {v : SV FM} (h : loadS P S ty x = some (φs, v)) (hφ : All φs) :
    v.wf ∧ v.lt S.E.length = true ∧ ∃ (A : Option Addr) (cs : List Value) (off : Nat), x.den S.E = .pointer (some (adr A off)) ∧ Rd w A cs ∧
      ((aggB P ty = some false ∧ cs[off]? = some (v.den S.E)) ∨ (∃ n, aggB P ty = some true ∧ sizeB P ty = some n ∧ off + n ≤ cs.length ∧ v.den S.E = .agg ((cs.drop off).take n).toArray)) := by
  cases x with
  | pt id off =>
    obtain ⟨⟨c, φ'⟩, hc, h⟩ := Option.bind_eq_some_iff.1 h
    obtain ⟨v', hv, h⟩ := Option.map_eq_some_iff.1 h
    simp only [Prod.mk.injEq] at h
    obtain ⟨rfl, rfl⟩ := h
    obtain ⟨q1, q2, q3⟩ := rdOf_spec hS H hc hφ
    obtain ⟨g1, g2, g3⟩ := ldS_spec (E := S.E) (N := S.E.length) (cs := cden S.E c) (off := off) hv fun n r hr => by
      obtain ⟨p1, p2, p3, p4, p5⟩ := csub_spec (E := S.E) hr q2 q3
      exact ⟨p1, p2, p3, p4, by rw [clen q2]; exact p5⟩
    exact ⟨g1, g2, _, _, off, by simp only [S0.den, plc_adr], q1, g3⟩
  | qt id o i st o2 =>
    obtain ⟨⟨c, φ'⟩, hc, h⟩ := Option.bind_eq_some_iff.1 h
    obtain ⟨m, hm, h⟩ := Option.bind_eq_some_iff.1 h
    obtain ⟨v', hv, h⟩ := Option.map_eq_some_iff.1 h
    simp only [Prod.mk.injEq] at h
    obtain ⟨rfl, rfl⟩ := h
    obtain ⟨q1, q2, q3⟩ := rdOf_spec hS H hc hφ.2
    obtain ⟨g1, g2, g3⟩ := ldS_spec (E := S.E) (N := S.E.length) (cs := cden S.E c) (off := o + i * st + o2) hv fun n r hr => by
      obtain ⟨⟨r', m'⟩, hr', rfl⟩ := Option.map_eq_some_iff.1 hr
      have := cdynm_of hr' hm; subst this
      obtain ⟨p1, p2, p3, p4, p5⟩ := cdyn_spec (E := S.E) (N := S.E.length) hr' q2 hφ.1
      exact ⟨by rw [up0_den]; exact p1, up0_wf p2, up0_ok p3, by rw [up0_n]; exact p4, p5⟩
    exact ⟨g1, g2, _, _, o + i * st + o2, by simp only [S0.den, plc_adr], q1, g3⟩
  | xv v => cases h
  | kb b => cases h
  | st l => cases h
  | sc => cases h
  | yl => cases h
  | mv => cases h

/-! ### Whole numbers -/
def memK (k : IntKind) : List IntKind → Bool
  | [] => false
  | a :: l => decide (a = k) || memK k l
def ibin (nw : List IntKind) (cy : Bool) (op : BinOp) (k : IntKind) (a b : Int) : Option (List Prop × Value) :=
  match op with
  | .add => bif memK k nw then some ([k.min ≤ a + b, a + b ≤ k.max], .int k (a + b)) else some ([], .int k (k.wrap (a + b)))
  | .sub => bif memK k nw then some ([k.min ≤ a - b, a - b ≤ k.max], .int k (a - b)) else some ([], .int k (k.wrap (a - b)))
  | .mul => bif memK k nw then some ([k.min ≤ a * b, a * b ≤ k.max], .int k (a * b)) else some ([], .int k (k.wrap (a * b)))
  | .quo => some ([0 ≤ a, a ≤ k.max, 0 < b], .int k (a / b))
  | .rem => some ([0 ≤ a, 0 < b], .int k (a % b))
  | .and => some ([], .int k (bnd k a b))
  | .or => some ([], .int k (bor k a b))
  | .xor => some ([], .int k (bxr k a b))
  | .andNot => some ([], .int k (bnt k a b))
  | .shl => some (bif cy then [] else [0 ≤ b], .int k (shlV k a b))
  | .shr => some (bif cy then [] else [0 ≤ b], .int k (shrV k a b))
  | .eql => some ([], .bool (decide (a = b)))
  | .neq => some ([], .bool (!decide (a = b)))
  | .lss => some ([], .bool (decide (a < b)))
  | .leq => some ([], .bool (decide (a ≤ b)))
  | .gtr => some ([], .bool (decide (b < a)))
  | .geq => some ([], .bool (decide (b ≤ a)))

theorem wrap_in {k : IntKind} {x : Int} (h0 : k.min ≤ x) (h1 : x ≤ k.max) : k.wrap x = x := by
  cases k <;> simp only [IntKind.min, IntKind.max, IntKind.signed, IntKind.bits, IntKind.wrap] at * <;> simp at * <;> omega
theorem kmin_le (k : IntKind) : k.min ≤ 0 := by cases k <;> decide

theorem ibin_run {P : Program} {nw : List IntKind} {cy : Bool} {op : BinOp} {k k' : IntKind} {a b : Int} {φs : List Prop} {v : Value} (h : ibin nw cy op k a b = some (φs, v)) (hφ : All φs) (hcy : cy = true → 0 ≤ b) (t : TypeId) (x y : Operand)
    (hk : k = k' ∨ op = .shl ∨ op = .shr) (w : World) : ((do eqGuard op t x y (.int k a) (.int k' b); binOp op t (.int k a) (.int k' b)) : Sem Value).run P w = .ok v w := by
  have sh : ∀ {o : BinOp}, (o = .shl ∨ o = .shr) → All (bif cy then [] else [0 ≤ b]) → ¬ b < 0 := by
    intro o _ hh
    cases cy
    · have := hh.1; omega
    · have := hcy rfl; omega
  cases op <;> simp only [ibin, Option.some.injEq, Prod.mk.injEq, reduceCtorEq, cond_eq_ite] at h
  case add | sub | mul =>
    have hk : k = k' := by rcases hk with h | h | h <;> first | exact h | cases h
    subst hk
    split at h <;> simp only [Option.some.injEq, Prod.mk.injEq] at h <;> obtain ⟨rfl, rfl⟩ := h
    · simp [eqGuard, binOp, Op.intArith, wrap_in hφ.1 hφ.2.1]
    · simp [eqGuard, binOp, Op.intArith]
  case shl | shr =>
    obtain ⟨rfl, rfl⟩ := h
    have := sh (o := .shl) (Or.inl rfl) (by simpa [cond_eq_ite] using hφ)
    simp [eqGuard, binOp, Op.shift, shlV, shrV, this]
  case quo =>
    have hk : k = k' := by rcases hk with h | h | h <;> first | exact h | cases h
    subst hk
    obtain ⟨rfl, rfl⟩ := h
    obtain ⟨h1, h2, h3, -⟩ := hφ
    have hq : k.wrap (a.tdiv b) = a / b := by
      rw [Int.tdiv_eq_ediv_of_nonneg h1]
      have := kmin_le k
      have h5 : 0 ≤ a / b := Int.ediv_nonneg h1 (by omega)
      have h6 : a / b ≤ a := Int.ediv_le_self b h1
      exact wrap_in (by omega) (by omega)
    simp [eqGuard, binOp, Op.intDiv, show ¬ b = 0 by omega, hq]
  case rem =>
    have hk : k = k' := by rcases hk with h | h | h <;> first | exact h | cases h
    subst hk
    obtain ⟨rfl, rfl⟩ := h
    obtain ⟨h1, h3, -⟩ := hφ
    simp [eqGuard, binOp, Op.intDiv, show ¬ b = 0 by omega, Int.tmod_eq_emod_of_nonneg h1]
  all_goals
    have hk : k = k' := by rcases hk with h | h | h <;> first | exact h | cases h
    subst hk
    obtain ⟨rfl, rfl⟩ := h
    first
      | simp [eqGuard, binOp, Op.intBits, bnd, bor, bxr, bnt]; done
      | simp [eqGuard, binOp, Op.intCmp]; done
      | (simp [eqGuard, binOp, Op.intCmp]; first | rfl | (congr 1) | (by_cases h : a = b <;> simp [h]))
end
end Go.Px
end
