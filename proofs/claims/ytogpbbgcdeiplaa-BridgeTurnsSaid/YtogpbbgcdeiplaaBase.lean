/-
  The base of this seat's walks: what a table of temporaries says of a frame, regions in a fixed order of their operations, memory as a list of known blocks. No condition.
-/
import Derived.OrdersHeld
import Derived.OrdersIn
import Derived.RangeFuncIn
import Derived.RangeFuncRecord
import Derived.Below
import Derived.WalkKit
set_option linter.all false
namespace Go.Px
open Go.RowKit

abbrev Tab := List (Nat × Value)

/-- The value of a temporary, as far as it is known. -/
def look : Tab → Nat → Option Value
  | [], _ => none
  | (s, v) :: r, t => if s == t then some v else look r t

/-- How many temporaries an activation has, and what was put off in it. -/
structure FN where
  n : Nat
  D : List Deferred
instance : Coe FN Nat := ⟨FN.n⟩
/-- What a table says of a frame. -/
def Tm (N : FN) (T : Tab) (a : Act) : Prop :=
  a.defers = N.D ∧ a.tmps.size = N.n ∧ ∀ t v, look T t = some v → a.tmps[t]? = some v

def At (N : FN) (T : Tab) (w : World) (K : Act → World → Prop) : Prop := ∀ a, Tm N T a → K a w

theorem Tm.put {N : FN} {T : Tab} {a : Act} (h : Tm N T a) {d : Nat} (hd : d < N) (v : Value) : Tm N ((d, v) :: T) (a.put (some d) v) := by
  obtain ⟨h1, h2, h3⟩ := h
  refine ⟨h1, by simp [Act.put, h2], fun t u ht => ?_⟩
  simp only [look] at ht
  by_cases e : d = t
  · subst e
    simp only [beq_self_eq_true, if_true, Option.some.injEq] at ht
    subst ht
    simp [Act.put, h2, hd]
  · rw [if_neg (by simpa using e)] at ht
    simp only [Act.put]
    rw [Array.getElem?_setIfInBounds_ne e]
    exact h3 t u ht

/-- A table that says no more. -/
def pick (T : Tab) : List Nat → Option Tab
  | [] => some []
  | t :: r => match look T t, pick T r with
    | some v, some l => some ((t, v) :: l)
    | _, _ => none

theorem pick_spec {T : Tab} : ∀ {ks : List Nat} {T' : Tab}, pick T ks = some T' → ∀ t v, look T' t = some v → look T t = some v
  | [], T', h, t, v, hv => by simp [pick] at h; subst h; simp [look] at hv
  | k :: r, T', h, t, v, hv => by
    unfold pick at h
    split at h
    · rename_i u l hu hl
      simp at h; subst h
      simp only [look] at hv
      by_cases e : k = t
      · subst e; simp at hv; subst hv; exact hu
      · rw [if_neg (by simpa using e)] at hv; exact pick_spec hl t v hv
    · simp at h

theorem Tm.pick {N : FN} {T T' : Tab} {a : Act} (h : Tm N T a) {ks : List Nat} (hp : pick T ks = some T') : Tm N T' a :=
  ⟨h.1, h.2.1, fun t v ht => h.2.2 t v (pick_spec hp t v ht)⟩

/-! ### Operations that neither read nor write memory -/

def pureRun {α : Type} (P : Program) : Sem α → Option α
  | .pure a => some a
  | .program k => pureRun P (k P)
  | _ => none

theorem pureRun_spec {α : Type} {P : Program} : ∀ {s : Sem α} {x : α}, pureRun P s = some x → ∀ w, s.run P w = .ok x w
  | .pure a, x, h, w => by simp [pureRun] at h; subst h; rfl
  | .program k, x, h, w => by simp only [pureRun] at h; simp only [Sem.run]; exact pureRun_spec h w
  | .load .., _, h, _ => by simp [pureRun] at h
  | .store .., _, h, _ => by simp [pureRun] at h
  | .new .., _, h, _ => by simp [pureRun] at h
  | .shape .., _, h, _ => by simp [pureRun] at h
  | .freeze .., _, h, _ => by simp [pureRun] at h
  | .frozen .., _, h, _ => by simp [pureRun] at h
  | .getObj .., _, h, _ => by simp [pureRun] at h
  | .setObj .., _, h, _ => by simp [pureRun] at h
  | .choose .., _, h, _ => by simp [pureRun] at h
  | .sys .., _, h, _ => by simp [pureRun] at h
  | .mark .., _, h, _ => by simp [pureRun] at h
  | .halt .., _, h, _ => by simp [pureRun] at h

def evT (T : Tab) : Operand → Option Value
  | .tmp t => look T t
  | .const v => some v
  | .global g => some (.pointer (some ⟨g, 0, none⟩))
  | .func f => some (.func (.func f) #[] #[])

def evD (T : Tab) (x : Operand) : Value := (evT T x).getD undef

def known (T : Tab) (x : Operand) : Bool := (evT T x).isSome

theorem evT_spec {N : FN} {T : Tab} {a : Act} (h : Tm N T a) {x : Operand} {v : Value} (hx : evT T x = some v) : a.eval x = v := by
  cases x with
  | tmp t =>
    have := h.2.2 t v hx
    simp [Act.eval, this]
  | const u => simpa [evT, Act.eval] using hx
  | global g => simpa [evT, Act.eval] using hx
  | func f => simpa [evT, Act.eval] using hx

theorem evD_spec {N : FN} {T : Tab} {a : Act} (h : Tm N T a) {x : Operand} (hx : known T x = true) : a.eval x = evD T x := by
  cases hv : evT T x with
  | none => simp [known, hv] at hx
  | some v => rw [evT_spec h hv]; simp [evD, hv]

def isSelect : Op → Bool
  | .select .. => true
  | _ => false

/-- What an operation comes to, if it asks nothing of memory. -/
def opNext (P : Program) (T : Tab) (o : Oper) : Option Next :=
  if !isSelect o.op && o.op.operands.all (known T) then pureRun P (execOp (evD T) o) else none

theorem execOp_T {N : FN} {T : Tab} {a : Act} (h : Tm N T a) {o : Oper} (hs : isSelect o.op = false) (hk : o.op.operands.all (known T) = true) :
    execOp a.eval o = execOp (evD T) o :=
  execOp_congr o (by intro cs b e; rw [e] at hs; simp [isSelect] at hs) (fun x hx => evD_spec h (Array.all_eq_true_iff_forall_mem.1 hk x hx))

theorem opNext_spec {P : Program} {N : FN} {T : Tab} {a : Act} (h : Tm N T a) {o : Oper} {n : Next} (hn : opNext P T o = some n) (w : World) :
    (execOp a.eval o).run P w = .ok n w := by
  unfold opNext at hn
  split at hn
  · rename_i hc
    simp at hc
    rw [execOp_T h hc.1 (by simpa using hc.2)]
    exact pureRun_spec hn w
  · simp at hn

/-- Is the operation wanted? -/
def wantT (T : Tab) (ops : Array Oper) (o : Oper) : Option Bool :=
  match o.guard with
  | none => some true
  | some (j, want) =>
    match (ops[j]?).bind (·.dst) with
    | none => none
    | some t => match look T t with
      | none => none
      | some (.bool b) => some (b == want)
      | some _ => some false

theorem wantT_spec {N : FN} {T : Tab} {a : Act} (h : Tm N T a) {ops : Array Oper} {o : Oper} {b : Bool} (hw : wantT T ops o = some b) :
    Region.wanted o (yielded ops a.tmps) = b := by
  unfold wantT at hw
  unfold Region.wanted
  cases hg : o.guard with
  | none => simp [hg] at hw; simp [hw]
  | some g =>
    obtain ⟨j, want⟩ := g
    simp only [hg] at hw ⊢
    cases hd : (ops[j]?).bind (·.dst) with
    | none => simp [hd] at hw
    | some t =>
      simp only [hd] at hw
      cases hl : look T t with
      | none => simp [hl] at hw
      | some v =>
        have hv := h.2.2 t v hl
        have hy : yielded ops a.tmps j = match v with | .bool b => some b | _ => none := by
          unfold yielded
          rw [hd]
          simp only [Option.bind_some, hv]
          cases v <;> rfl
        rw [hy]
        cases v <;> simp [hl] at hw ⊢ <;> first | exact hw | (subst hw; simp) | skip

def putT (T : Tab) (d : Option Nat) (v : Value) : Tab :=
  match d with
  | some t => (t, v) :: T
  | none => T

def dstOk (N : Nat) (d : Option Nat) : Bool :=
  match d with
  | some t => decide (t < N)
  | none => true

theorem Tm.putT {N : FN} {T : Tab} {a : Act} (h : Tm N T a) {d : Option Nat} (hd : dstOk N d = true) (v : Value) : Tm N (putT T d v) (a.put d v) := by
  cases d with
  | none => exact h
  | some t => exact h.put (by simpa [dstOk] using hd) v

/-! ### A region in a fixed order of its operations -/

def Keep (w w' : World) : Prop := w.heap.size ≤ w'.heap.size ∧ ∀ k, k < w.heap.size → w'.heap[k]? = w.heap[k]?

theorem Keep.refl (w : World) : Keep w w := ⟨Nat.le_refl _, fun _ _ => rfl⟩
theorem Keep.trans {a b c : World} (h : Keep a b) (k : Keep b c) : Keep a c :=
  ⟨Nat.le_trans h.1 k.1, fun i hi => (k.2 i (Nat.lt_of_lt_of_le hi h.1)).trans (h.2 i hi)⟩

/-- No block goes, and those beside D stay. -/
def KeepD (d : Nat → Prop) (w w' : World) : Prop := w.heap.size ≤ w'.heap.size ∧ ∀ k, k < w.heap.size → ¬ d k → w'.heap[k]? = w.heap[k]?

theorem KeepD.refl (d : Nat → Prop) (w : World) : KeepD d w w := ⟨Nat.le_refl _, fun _ _ _ => rfl⟩
theorem KeepD.trans {d : Nat → Prop} {a b c : World} (h : KeepD d a b) (k : KeepD d b c) : KeepD d a c :=
  ⟨Nat.le_trans h.1 k.1, fun i hi hd => (k.2 i (Nat.lt_of_lt_of_le hi h.1) hd).trans (h.2 i hi hd)⟩
theorem Keep.toD {d : Nat → Prop} {w w' : World} (h : Keep w w') : KeepD d w w' := ⟨h.1, fun k hk _ => h.2 k hk⟩

def no : Nat → Prop := fun _ => False

/-- The classes of a region's operations, and the blocks that operations of class 2 may change. -/
structure FL where
  c : Nat → Nat
  d : Nat → Prop
  ro : Option Nat := none
instance : CoeFun FL (fun _ => Nat → Nat) := ⟨FL.c⟩
/-- In what worlds a quiet operation yields its value: 0: in all; else: in those that keep this one. -/
def In (d : Nat → Prop) (f : Nat) (w : World) : World → Prop := fun w' => f = 0 ∨ KeepD d w w'

/-- In what order the operations of a region are gone through: one behind the other; where two may come up, both ways. -/
inductive OT where
  | nil
  | s (i : Nat) (t : OT)
  | br (t u : OT)

def ol : List Nat → OT
  | [] => .nil
  | i :: r => .s i (ol r)
def ob : List Nat → OT → OT → OT
  | [], t, u => .br t u
  | i :: r, t, u => .s i (ob r t u)
def rng : Nat → Nat → OT
  | _, 0 => .nil
  | i, n + 1 => .s i (rng (i + 1) n)
def OT.heads : OT → List Nat
  | .nil => []
  | .s i _ => [i]
  | .br t u => t.heads ++ u.heads

/-! ### Steps in a round of a range over a function, or in none -/
/-- No fence, and the round that an activation is of. -/
def FR (ro : Option Nat) : Fence := { Fence.wide with round := ro }
theorem Calls.toR {P : Program} {f : FuncId} {args : Array Value} {w : World} {R : Ending → World → Prop} (ro : Option Nat) (n : Nat) (h : Calls P f args w R) : CallsIn (FR ro) n P f args w R :=
  (callsIn_wide (n := n)).2 h
theorem Calls.ofR {P : Program} {f : FuncId} {args : Array Value} {w : World} {R : Ending → World → Prop} {ro : Option Nat} {n : Nat} (h : CallsIn (FR ro) n P f args w R) : Calls P f args w R :=
  (callsIn_wide (n := n)).1 h
/-- Code in a round's frame, or in none. -/
def Code.wpR (ro : Option Nat) (P : Program) (c : Code) (Q : Exit → Act → World → Prop) (a : Act) (w : World) : Prop := Code.wpIn (FR ro) 0 P c Q a w

/-- What an operation comes to. -/
def uponR (ro : Option Nat) (P : Program) (o : Oper) (a : Act) (next : Act → World → Prop) (Q : Exit → Act → World → Prop) : Result Next → Prop
  | .ok (.value v) w' => next (a.put o.dst v) w'
  | .ok .skip w' => next (a.put o.dst undef) w'
  | .ok (.enter f args) w' => Calls P f args w' fun
      | .returned v, w'' => next (a.put o.dst v) w''
      | .panicked chain, w'' => Q (.panic chain) a w''
      | .outgrown, _ => LetsOut Q
  | .ok (.round l f tmps assign body) w' => RoundIn (FR ro) 0 P l f tmps assign body w' fun
      | .returned v, w'' => next (a.put o.dst v) w''
      | .panicked chain, w'' => Q (.panic chain) a w''
      | .outgrown, _ => LetsOut Q
  | .halt (.panic v) w' => Q (.panic [{ v, recovered := false }]) a w'
  | _ => False
def operR (ro : Option Nat) (P : Program) (o : Oper) (a : Act) (w : World) (next : Act → World → Prop) (Q : Exit → Act → World → Prop) : Prop :=
  uponR ro P o a next Q ((execOp a.eval o).run P w)
theorem operR_mono {ro : Option Nat} {P : Program} {Q : Exit → Act → World → Prop} {o : Oper} {a : Act} {w : World} {K K' : Act → World → Prop} (h : ∀ a w, K a w → K' a w) (hh : operR ro P o a w K Q) : operR ro P o a w K' Q := by
  unfold operR at *
  generalize (execOp a.eval o).run P w = r at *
  cases r with
  | ok x w' =>
    cases x <;> simp only [uponR] at hh ⊢ <;>
      first
        | exact h _ _ hh
        | exact Calls.mono hh (fun e w'' he => by cases e <;> first | exact h _ _ he | exact he)
        | exact RoundIn.mono hh (fun e w'' he => by cases e <;> first | exact h _ _ he | exact he)
  | halt x w' => cases x <;> simp only [uponR] at hh ⊢ <;> exact hh
def wpOpR (ro : Option Nat) (P : Program) (ops : Array Oper) (Q : Exit → Act → World → Prop) (i : Nat) (K : Act → World → Prop) (a : Act) (w : World) : Prop :=
  match ops[i]? with
  | none => K a w
  | some o => if Region.wanted o (yielded ops a.tmps) then operR ro P o a w K Q else K (a.put o.dst undef) w
theorem wpOpR_mono {ro : Option Nat} {P : Program} {ops : Array Oper} {Q : Exit → Act → World → Prop} {i : Nat} {a : Act} {w : World} {K K' : Act → World → Prop} (h : ∀ a w, K a w → K' a w)
    (hh : wpOpR ro P ops Q i K a w) : wpOpR ro P ops Q i K' a w := by
  unfold wpOpR at *
  split
  · exact h _ _ (by simpa [*] using hh)
  · rename_i o ho
    simp only [ho] at hh
    split
    · rename_i hw; simp only [hw, if_true] at hh; exact operR_mono h hh
    · rename_i hw; simp only [hw] at hh; exact h _ _ hh
theorem yieldsIf_wpOpR {ro : Option Nat} {P : Program} {ops : Array Oper} {Q : Exit → Act → World → Prop} {S : World → Prop} {i : Nat} {o : Oper} {v : Value} {a : Act} (hi : ops[i]? = some o) (hy : YieldsIf P ops S o v a)
    {K : Act → World → Prop} {w : World} (hS : S w) (h : K (a.put o.dst v) w) : wpOpR ro P ops Q i K a w := by
  unfold wpOpR
  simp only [hi]
  rcases hy with ⟨hw, hv⟩ | ⟨hw, rfl⟩
  · simp only [hw, if_true, operR, hv w hS, uponR]; exact h
  · simp only [hw, Bool.false_eq_true, if_false]; exact h
theorem wpOpR_putIf {ro : Option Nat} {P : Program} {ops : Array Oper} {Q : Exit → Act → World → Prop} {S : World → Prop} {j : Nat} {oi oj : Oper} {v : Value} (hj : ops[j]? = some oj) (hap : oi.apart ops oj = true)
    (hsi : ∀ cs b, oi.op ≠ .select cs b) (hsj : ∀ cs b, oj.op ≠ .select cs b)
    (hQ : ∀ c a w, Q (.panic c) (a.put oi.dst v) w → Q (.panic c) a w) {K : Act → World → Prop} {a : Act} {w : World}
    (hy : YieldsIf P ops S oi v a) (h : wpOpR ro P ops Q j K (a.put oi.dst v) w) :
    wpOpR ro P ops Q j (fun a' w' => YieldsIf P ops S oi v a' ∧ K (a'.put oi.dst v) w') a w := by
  obtain ⟨h1, h2, h3⟩ := Oper.apart_spec hap
  have keep : ∀ (a : Act), YieldsIf P ops S oi v a → ∀ u, YieldsIf P ops S oi v (a.put oj.dst u) := fun a hy u =>
    hy.of_same (execOp_put oi hsi a oj.dst u h3) (wanted_put oi a oj.dst u h3)
  unfold wpOpR at *
  simp only [hj] at *
  rw [wanted_put oj a oi.dst v h1] at h
  split
  · rename_i hw
    simp only [hw, if_true] at h
    unfold operR at *
    rw [execOp_put oj hsj a oi.dst v h1] at h
    generalize (execOp a.eval oj).run P w = r at *
    cases r with
    | ok n w' =>
      cases n <;> simp only [uponR] at h ⊢
      case value u => exact ⟨keep a hy u, by rw [← Act.put_comm a v u h2]; exact h⟩
      case skip => exact ⟨keep a hy _, by rw [← Act.put_comm a v undef h2]; exact h⟩
      case enter f args =>
        refine Calls.mono h fun e w'' he => ?_
        cases e with
        | returned u => exact ⟨keep a hy u, by rw [← Act.put_comm a v u h2]; exact he⟩
        | panicked c => exact hQ _ _ _ he
        | outgrown => exact he
      case round l f tmps assign body =>
        refine RoundIn.mono h fun e w'' he => ?_
        cases e with
        | returned u => exact ⟨keep a hy u, by rw [← Act.put_comm a v u h2]; exact he⟩
        | panicked c => exact hQ _ _ _ he
        | outgrown => exact he
    | halt x w' =>
      cases x <;> simp only [uponR] at h ⊢
      case panic u => exact hQ _ _ _ h
  · rename_i hw
    simp only [hw] at h
    exact ⟨keep a hy _, by rw [← Act.put_comm a v undef h2]; exact h⟩
/-- No operation that puts a call off. -/
def noDefer (ops : Array Oper) : Bool := ops.all fun o => match o.op with | .defer _ => false | _ => true
theorem noDefer_spec {ops : Array Oper} (h : noDefer ops = true) {i : Nat} {o : Oper} (ho : ops[i]? = some o) (c : Call) : o.op ≠ .defer c := by
  intro e
  have := Array.all_eq_true_iff_forall_mem.1 h o (Array.mem_of_getElem? ho)
  simp [e] at this
theorem operIn_of_R {ro : Option Nat} {P : Program} {Q : Exit → Act → World → Prop} {o : Oper} {a : Act} {w : World} {K : Act → World → Prop} (hd : ∀ c, o.op ≠ .defer c) (h : operR ro P o a w K Q) : o.wpIn (FR ro) 0 P a w K Q := by
  refine ⟨fun _ _ => trivial, ?_⟩
  rw [Oper.semAt_eq _ _ _ hd]
  unfold operR at h
  generalize (execOp a.eval o).run P w = r at *
  cases r with
  | ok n w' =>
    cases n <;> simp only [uponR, Oper.uponIn] at h ⊢
    case value u => exact h
    case skip => exact h
    case enter f args => exact ⟨fun h => by simp [FR, Fence.wide] at h, Calls.toR ro _ h⟩
    case round l f tmps assign body => exact ⟨fun h => by simp [FR, Fence.wide] at h, h⟩
  | halt x w' => cases x <;> simp only [uponR, Oper.uponIn] at h ⊢ <;> exact h
theorem wpOpIn_of_R {ro : Option Nat} {P : Program} {ops : Array Oper} {Q : Exit → Act → World → Prop} {i : Nat} {a : Act} {w : World} {K : Act → World → Prop} (hd : noDefer ops = true) (h : wpOpR ro P ops Q i K a w) : wpOpIn (FR ro) 0 P ops Q i K a w := by
  unfold wpOpR at h
  unfold wpOpIn
  split
  · rename_i ho; simpa [ho] using h
  · rename_i o ho
    simp only [ho] at h
    split
    · rename_i hw; simp only [hw, if_true] at h; exact operIn_of_R (noDefer_spec hd ho) h
    · rename_i hw; simp only [hw] at h; exact ⟨fun _ _ => trivial, h⟩

def wpC (P : Program) (ops : Array Oper) (Q : Exit → Act → World → Prop) (fl : FL) : OT → Act → World → Prop
  | .nil, a, w => Q .normal a w
  | .br t u, a, w => wpC P ops Q fl t a w ∧ wpC P ops Q fl u a w
  | .s i rest, a, w =>
    match ops[i]? with
    | none => False
    | some o =>
      if fl i ≤ 1 then ∃ v, YieldsIf P ops (In fl.d (fl i) w) o v a ∧ wpC P ops Q fl rest (a.put o.dst v) w
      else wpOpR fl.ro P ops Q i (fun a' w' => (fl i ≤ 2 → KeepD fl.d w w') ∧ wpC P ops Q fl rest a' w') a w

theorem wpC_quiet {P : Program} {ops : Array Oper} {Q : Exit → Act → World → Prop} {fl : FL} {i : Nat} {rest : OT} {a : Act} {w : World} {o : Oper} {v : Value}
    (ho : ops[i]? = some o) (hf : fl i ≤ 1) (hy : YieldsIf P ops (In fl.d (fl i) w) o v a) (h : wpC P ops Q fl rest (a.put o.dst v) w) : wpC P ops Q fl (.s i rest) a w := by
  simp only [wpC, ho, if_pos hf]
  exact ⟨v, hy, h⟩

theorem wpOp_of_wpC {P : Program} {ops : Array Oper} {Q : Exit → Act → World → Prop} {fl : FL} {i : Nat} {rest : OT} {a : Act} {w : World}
    (h : wpC P ops Q fl (.s i rest) a w) : wpOpR fl.ro P ops Q i (fun a' w' => (fl i ≤ 2 → KeepD fl.d w w') ∧ wpC P ops Q fl rest a' w') a w := by
  simp only [wpC] at h
  split at h
  · exact h.elim
  · rename_i o ho
    split at h
    · obtain ⟨v, hy, hn⟩ := h
      exact yieldsIf_wpOpR ho hy (Or.inr (KeepD.refl fl.d w)) ⟨fun _ => KeepD.refl fl.d w, hn⟩
    · exact h

theorem wpOps_of_wpC {P : Program} {ops : Array Oper} {Q : Exit → Act → World → Prop} {fl : FL} (hd : noDefer ops = true) : ∀ (L : List Nat) (a : Act) (w : World),
    wpC P ops Q fl (ol L) a w → wpOpsIn (FR fl.ro) 0 P ops Q L a w
  | [], _, _, h => h
  | i :: rest, a, w, h => by
    rw [wpOpsIn_cons]
    exact wpOpIn_of_R hd (wpOpR_mono (fun a' w' h' => wpOps_of_wpC hd rest a' w' h'.2) (wpOp_of_wpC h))

section canon
variable {P : Program} {ops : Array Oper} {Q : Exit → Act → World → Prop} {fl : FL}

def indep (ops : Array Oper) (fl : FL) (q i : Nat) : Bool :=
  match ops[q]?, ops[i]? with
  | some oq, some oi => decide (fl q ≤ 1) && oq.apart ops oi && (decide (fl i ≤ 2) || fl q == 0)
  | _, _ => false

/-- The direct predecessors. -/
def pred (ops : Array Oper) (z x : Nat) : Bool :=
  match ops[z]? with
  | some o => o.after.any fun e => Region.binds .any e && e.on == x
  | none => false

/-- What must come ahead, out of a list. -/
def scan (ops : Array Oper) : List Nat → List Nat → List Nat
  | D, [] => D
  | D, x :: xs => if D.any (fun z => pred ops z x) then scan ops (x :: D) xs else scan ops D xs

def ancOf (ops : Array Oper) (y : Nat) : List Nat := scan ops [y] (List.range y).reverse

/-- May the operations be gone through so? -/
def okT (ops : Array Oper) (fl : FL) : Bool → Array Bool → OT → Bool
  | b, listed, .nil => !b && (Region.ready .any ops listed).isEmpty
  | b, listed, .s i t =>
    (if b then decide (2 ≤ fl i) && (Region.ready .any ops listed).contains i
     else if fl i ≤ 1 then (Region.ready .any ops listed).contains i && (List.range ops.size).all (fun y => listed.getD y true || y == i || (ancOf ops y).contains i || indep ops fl i y)
     else Region.ready .any ops listed == [i]) && okT ops fl false (listed.setIfInBounds i true) t
  | b, listed, .br t u => (b || (Region.ready .any ops listed).all fun i => (t.heads ++ u.heads).contains i) && okT ops fl true listed t && okT ops fl true listed u

/-- Listed ones have their predecessors listed. -/
def Down (ops : Array Oper) (listed : Array Bool) : Prop :=
  ∀ z x, listed.getD z true = true → pred ops z x = true → listed.getD x false = true

theorem scan_listed {listed : Array Bool} (hd : Down ops listed) {y : Nat} (hy : y ∈ Region.ready .any ops listed) :
    ∀ (xs D : List Nat), (∀ z ∈ D, z = y ∨ listed.getD z true = true) → ∀ z ∈ scan ops D xs, z = y ∨ listed.getD z true = true
  | [], D, h, z, hz => h z hz
  | x :: xs, D, h, z, hz => by
    unfold scan at hz
    split at hz
    · rename_i hc
      refine scan_listed hd hy xs (x :: D) (fun u hu => ?_) z hz
      rcases List.mem_cons.1 hu with rfl | hu
      · obtain ⟨t, ht, hp⟩ := List.any_eq_true.1 hc
        have hx : listed.getD u false = true := by
          rcases h t ht with rfl | hl
          · obtain ⟨hun, oj, hoj, hall⟩ := mem_ready.1 hy
            unfold pred at hp
            rw [hoj] at hp
            obtain ⟨e, he, hb⟩ := Array.any_eq_true'.1 hp
            simp only [Bool.and_eq_true, beq_iff_eq] at hb
            have := hall e he hb.1
            rw [hb.2] at this
            exact this
          · exact hd t u hl hp
        right
        rcases Nat.lt_or_ge u listed.size with h' | h'
        · simp [h'] at hx ⊢; exact hx
        · simp [Array.getElem?_eq_none h'] at hx
      · exact h u hu
    · exact scan_listed hd hy xs D h z hz

theorem getD_set_true' {listed : Array Bool} {i j : Nat} (h : listed.getD j true = true) : (listed.setIfInBounds i true).getD j true = true := by
  by_cases e : i = j
  · subst e
    rcases Nat.lt_or_ge i listed.size with h' | h'
    · simp [h']
    · simp [h']
  · rw [getD_set_ne true e]; exact h

theorem Down.set {listed : Array Bool} (hd : Down ops listed) {i : Nat} (hi : i ∈ Region.ready .any ops listed) : Down ops (listed.setIfInBounds i true) := by
  intro z x hz hp
  have key : listed.getD x false = true := by
    by_cases e : i = z
    · subst e
      obtain ⟨hun, oj, hoj, hall⟩ := mem_ready.1 hi
      unfold pred at hp
      rw [hoj] at hp
      obtain ⟨e, he, hb⟩ := Array.any_eq_true'.1 hp
      simp only [Bool.and_eq_true, beq_iff_eq] at hb
      have := hall e he hb.1
      rw [hb.2] at this
      exact this
    · rw [getD_set_ne true e] at hz
      exact hd z x hz hp
  exact getD_set_true key

theorem anc_listed {listed : Array Bool} (hd : Down ops listed) {y x : Nat} (hy : y ∈ Region.ready .any ops listed) (hx : x ∈ ancOf ops y) : x = y ∨ listed.getD x true = true :=
  scan_listed hd hy _ [y] (by simp) x hx

theorem not_listed {listed : Array Bool} {i : Nat} (hi : i ∈ Region.ready .any ops listed) : listed.getD i true = false := (mem_ready.1 hi).1

theorem pullB {i : Nat} : ∀ (t : OT) (listed : Array Bool) (a : Act) (w : World), okT ops fl true listed t = true → i ∈ t.heads → wpC P ops Q fl t a w →
    ∃ t', okT ops fl false (listed.setIfInBounds i true) t' = true ∧ wpOpR fl.ro P ops Q i (fun a' w' => (fl i ≤ 2 → KeepD fl.d w w') ∧ wpC P ops Q fl t' a' w') a w
  | .nil, listed, a, w, _, hi, _ => by cases hi
  | .s x t, listed, a, w, ho, hi, h => by
    simp only [OT.heads, List.mem_singleton] at hi
    subst hi
    simp only [okT, if_true, Bool.and_eq_true] at ho
    exact ⟨t, ho.2, wpOp_of_wpC h⟩
  | .br t u, listed, a, w, ho, hi, h => by
    simp only [okT, Bool.true_or, Bool.true_and, Bool.and_eq_true] at ho
    simp only [OT.heads, List.mem_append] at hi
    simp only [wpC] at h
    rcases hi with hi | hi
    · exact pullB t listed a w ho.1 hi h.1
    · exact pullB u listed a w ho.2 hi h.2

theorem pullT (hs : Region.noSelect ops = true) (hQ : ∀ c d (v : Value) a w, Q (.panic c) (Act.put a d v) w → Q (.panic c) a w) {i : Nat} :
    ∀ (t : OT) (listed : Array Bool) (a : Act) (w : World), okT ops fl false listed t = true → Down ops listed → i ∈ Region.ready .any ops listed → wpC P ops Q fl t a w →
    ∃ t', okT ops fl false (listed.setIfInBounds i true) t' = true ∧ wpOpR fl.ro P ops Q i (fun a' w' => (fl i ≤ 2 → KeepD fl.d w w') ∧ wpC P ops Q fl t' a' w') a w
  | .nil, listed, a, w, ho, _, hi, _ => by
    simp only [okT, Bool.not_false, Bool.true_and, List.isEmpty_iff] at ho
    rw [ho] at hi
    cases hi
  | .br t u, listed, a, w, ho, _, hi, h => by
    simp only [okT, Bool.false_or, Bool.and_eq_true, List.all_eq_true] at ho
    have hh := ho.1.1 i hi
    simp only [wpC] at h
    have hm : i ∈ t.heads ++ u.heads := by simpa using hh
    rcases List.mem_append.1 hm with hm | hm
    · exact pullB t listed a w ho.1.2 hm h.1
    · exact pullB u listed a w ho.2 hm h.2
  | .s x t, listed, a, w, ho, hd, hi, h => by
    simp only [okT, Bool.false_eq_true, if_false, Bool.and_eq_true] at ho
    obtain ⟨h1, h2⟩ := ho
    by_cases hf : fl x ≤ 1
    · rw [if_pos hf] at h1
      simp only [Bool.and_eq_true, List.all_eq_true, List.mem_range, Bool.or_eq_true, beq_iff_eq] at h1
      obtain ⟨hx, hy⟩ := h1
      have hx' : x ∈ Region.ready .any ops listed := by simpa using hx
      by_cases e : i = x
      · subst e
        exact ⟨t, h2, wpOp_of_wpC h⟩
      · have hilt : i < ops.size := by
          obtain ⟨_, o, ho, _⟩ := mem_ready.1 hi
          exact (Array.getElem?_eq_some_iff.1 ho).1
        have hind : indep ops fl x i = true := by
          rcases hy i hilt with ((h3 | h3) | h3) | h3
          · rw [not_listed hi] at h3; cases h3
          · exact absurd h3 e
          · rcases anc_listed hd hi (by simpa using h3) with h4 | h4
            · exact absurd h4.symm e
            · rw [not_listed hx'] at h4; cases h4
          · exact h3
        unfold indep at hind
        split at hind
        · rename_i oq oi hoq hoi
          simp only [Bool.and_eq_true, decide_eq_true_eq, Bool.or_eq_true, beq_iff_eq] at hind
          obtain ⟨⟨_, hap⟩, hk⟩ := hind
          simp only [wpC, hoq, if_pos hf] at h
          obtain ⟨v, hyv, hn⟩ := h
          obtain ⟨t', ht', ih⟩ := pullT hs hQ t (listed.setIfInBounds x true) _ w h2 (hd.set hx') (ready_mono hi e) hn
          have h5 := wpOpR_putIf hoi hap (Region.noSelect_spec hs x oq · · hoq) (Region.noSelect_spec hs i oi · · hoi) (fun c a w => hQ c oq.dst v a w) hyv ih
          refine ⟨.s x t', ?_, wpOpR_mono (fun a' w' h3 => ⟨h3.2.1, ?_⟩) h5⟩
          · simp only [okT, Bool.false_eq_true, if_false, if_pos hf, Bool.and_eq_true, List.all_eq_true, List.mem_range, Bool.or_eq_true, beq_iff_eq]
            refine ⟨⟨by simpa using ready_mono hx' (Ne.symm e), fun y hyy => ?_⟩, ?_⟩
            · rcases hy y hyy with ((h6 | h6) | h6) | h6
              · exact Or.inl (Or.inl (Or.inl (getD_set_true' h6)))
              · exact Or.inl (Or.inl (Or.inr h6))
              · exact Or.inl (Or.inr h6)
              · exact Or.inr h6
            · rw [Array.setIfInBounds_comm _ _ e]; exact ht'
          · simp only [wpC, hoq, if_pos hf]
            refine ⟨v, ?_, h3.2.2⟩
            rcases h3.1 with ⟨hw, hv⟩ | h4
            · refine Or.inl ⟨hw, fun w'' hw'' => hv w'' ?_⟩
              rcases hw'' with h0 | hkk
              · exact Or.inl h0
              · rcases hk with hk | hk
                · exact Or.inr ((h3.2.1 hk).trans hkk)
                · exact Or.inl hk
            · exact Or.inr h4
        · cases hind
    · rw [if_neg hf] at h1
      have h3 : Region.ready .any ops listed = [x] := by simpa using h1
      rw [h3] at hi
      simp only [List.mem_singleton] at hi
      subst hi
      exact ⟨t, h2, wpOp_of_wpC h⟩

theorem done_of_okT {t : OT} {listed : Array Bool} {a : Act} {w : World} (hr : Region.ready .any ops listed = []) : okT ops fl false listed t = true → wpC P ops Q fl t a w → Q .normal a w := by
  have hB : ∀ t : OT, okT ops fl true listed t = true → False := by
    intro t
    induction t with
    | nil => intro h; simp [okT] at h
    | s i t _ => intro h; simp [okT, hr] at h
    | br t u ih1 _ => intro h; simp only [okT, Bool.true_or, Bool.true_and, Bool.and_eq_true] at h; exact ih1 h.1
  cases t with
  | nil => intro _ h; exact h
  | s i t =>
    intro h
    simp only [okT, hr, Bool.false_eq_true, if_false] at h
    split at h <;> simp at h
  | br t u =>
    intro h
    simp only [okT, Bool.and_eq_true] at h
    exact (hB t h.1.2).elim

theorem wpAny_of_wpC (hd0 : noDefer ops = true) (hs : Region.noSelect ops = true) (hQ : ∀ c d (v : Value) a w, Q (.panic c) (Act.put a d v) w → Q (.panic c) a w) :
    ∀ (fuel : Nat) (listed : Array Bool) (t : OT) (a : Act) (w : World), Down ops listed → (List.range ops.size).countP (fun i => !listed.getD i true) ≤ fuel →
      okT ops fl false listed t = true → wpC P ops Q fl t a w → wpAnyIn (FR fl.ro) 0 P .any ops Q fuel listed a w := by
  intro fuel
  induction fuel with
  | zero =>
    intro listed t a w hd hc ho h
    have hr : Region.ready .any ops listed = [] := by
      rcases hr : Region.ready .any ops listed with _ | ⟨x, r⟩
      · rfl
      · exfalso
        have hx : x ∈ Region.ready .any ops listed := by rw [hr]; simp
        obtain ⟨hun, o, hox, _⟩ := mem_ready.1 hx
        have := List.countP_pos_iff (p := fun i => !listed.getD i true).2 ⟨x, List.mem_range.2 (Array.getElem?_eq_some_iff.1 hox).1, by rw [hun]; rfl⟩
        omega
    exact ⟨hr, done_of_okT hr ho h⟩
  | succ fuel ih =>
    intro listed t a w hd hc ho h
    refine ⟨fun hr => done_of_okT hr ho h, fun i hi => ?_⟩
    obtain ⟨t', ho', hp⟩ := pullT hs hQ t listed a w ho hd hi h
    refine wpOpIn_of_R hd0 (wpOpR_mono (fun a' w' h3 => ih _ t' a' w' (hd.set hi) ?_ ho' h3.2) hp)
    obtain ⟨hun, o, hox, _⟩ := mem_ready.1 hi
    have hilt := (Array.getElem?_eq_some_iff.1 hox).1
    have hlt : i < listed.size := by
      rcases Nat.lt_or_ge i listed.size with h' | h'
      · exact h'
      · simp [Array.getElem?_eq_none h'] at hun
    have key : ∀ n, i < n → (List.range n).countP (fun j => !(listed.setIfInBounds i true).getD j true) + 1 = (List.range n).countP (fun j => !listed.getD j true) := by
      have same : ∀ n, n ≤ i → (List.range n).countP (fun j => !(listed.setIfInBounds i true).getD j true) = (List.range n).countP (fun j => !listed.getD j true) := by
        intro n hn
        apply List.countP_congr
        intro j hj
        have := List.mem_range.1 hj
        rw [getD_set_ne true (by omega)]
      intro n
      induction n with
      | zero => intro h; omega
      | succ n ihn =>
        intro hn
        rw [List.range_succ, List.countP_append, List.countP_append]
        by_cases e : i = n
        · subst e
          rw [same i (Nat.le_refl _)]
          simp only [List.countP_singleton]
          rw [hun]
          simp [hlt]
        · have := ihn (by omega)
          simp only [List.countP_singleton]
          rw [getD_set_ne true e]
          omega
    have := key ops.size hilt
    omega

/-- A region that draws its order, in one order (or in some). -/
theorem wp_region_ord {id : Nat} {t : OT} {a : Act} {w : World} (hm : P.follows .mixedOrders = true) (hok : (noDefer ops && Region.noSelect ops && okT ops fl false (Array.replicate ops.size false) t) = true)
    (hQ : ∀ c d (v : Value) a w, Q (.panic c) (Act.put a d v) w → Q (.panic c) a w)
    (h : wpC P ops Q fl t a { w with drawn := w.drawn + 1 }) : Code.wpR fl.ro P (Code.region id ops true) Q a w := by
  simp only [Bool.and_eq_true] at hok
  refine wpIn_region_any hm (wpAny_of_wpC hok.1.1 hok.1.2 hQ ops.size _ t a _ ?_ ?_ hok.2 h)
  · intro z x hz hp
    exfalso
    unfold pred at hp
    split at hp
    · rename_i o ho
      have := (Array.getElem?_eq_some_iff.1 ho).1
      simp [this] at hz
    · cases hp
  · exact Nat.le_trans List.countP_le_length (by simp)

end canon
end Go.Px
