/-
  Rows with runs of records; pieces of memory, tables and states that are told by their shape, and what they stand for. No condition.
-/
import Derived.Test.YtogpbbgcdeiplaaZ1
set_option linter.all false
namespace Go.Px
open Go.RowKit

/-- A part of a record at hand: cells, or a slice of numbers that is at hand. -/
inductive DC where
  | c (s : Sg0)
  | d (A : Option Addr) (k : IntKind) (l : List Int) (cap : Nat)
def DC.den : DC → List Value
  | .c s => s.den []
  | .d A _ l cap => [.slice A l.length cap]
def dcden : List DC → List Value
  | [] => []
  | x :: r => x.den ++ dcden r
def dcwf : List DC → Prop
  | [] => True
  | .c s :: r => s.wf ∧ dcwf r
  | .d .. :: r => dcwf r
/-- A form of records; those that are deep hold slices of numbers. -/
structure Fm where
  α : Type
  sg : α → List Sg0
  sz : Nat
  d : α
  of : List Sg0 → Option α
  wf : α → Prop
  hd : wf d
  hsz : ∀ a, c0n (sg a) = sz
  hok : ∀ a, c0ok 0 (sg a) = true
  hwf : ∀ a, wf a ↔ c0wf (sg a)
  hmk : ∀ l a, of l = some a → sg a = l
  pos : 0 < sz
  deep : Bool := false
  inn : α → Nat → Option (Option Addr × IntKind × List Int) := fun _ _ => none
  hdp : deep = false → ∀ a o, inn a o = none := by intros; rfl
  hin : ∀ a o A k l, inn a o = some (A, k, l) → ∃ cap, (c0den [] (sg a))[o]? = some (.slice A l.length cap) := by intro a o A k l h; cases h
  ofD : List DC → Option α := fun _ => none
  hofD : ∀ ds a, ofD ds = some a → dcden ds = c0den [] (sg a) ∧ (dcwf ds → wf a) ∧ ∀ o A k l, inn a o = some (A, k, l) → ∃ cap, DC.d A k l cap ∈ ds := by intro ds a h; cases h
  kds : Option (List CK) := none
  hkd : ∀ ks, kds = some ks → ∀ a, wf a → (c0den [] (sg a)).map kd = ks.map some := by intro ks h; cases h
  dec : Option (DecidableEq α) := none
  hdec : dec.isSome = true → ∀ a b, wf a → wf b → c0den [] (sg a) = c0den [] (sg b) → a = b := by intro h; cases h

section
variable {FM : Nat → Fm}

inductive Sg (FM : Nat → Fm) where
  | b (s : Sg0)
  | f (j : Nat) (l : List (FM j).α) (n : Nat)

def fden (F : Fm) : List F.α → List Value
  | [] => []
  | a :: l => c0den [] (F.sg a) ++ fden F l
def Sg.den (E : List Ad) : Sg FM → List Value
  | .b s => s.den E
  | .f j l _ => fden (FM j) l
def Sg.n : Sg FM → Nat
  | .b s => s.n
  | .f j _ n => n * (FM j).sz
def Sg.wf : Sg FM → Prop
  | .b s => s.wf
  | .f j l n => l.length = n ∧ ∀ a ∈ l, (FM j).wf a
def Sg.ok (N : Nat) : Sg FM → Bool
  | .b s => s.ok N
  | .f .. => true

abbrev Ce (FM : Nat → Fm) := List (Sg FM)
def cden (E : List Ad) : Ce FM → List Value
  | [] => []
  | s :: c => s.den E ++ cden E c
def cn : Ce FM → Nat
  | [] => 0
  | s :: c => s.n + cn c
def cwf : Ce FM → Prop
  | [] => True
  | s :: c => s.wf ∧ cwf c
def cok (N : Nat) : Ce FM → Bool
  | [] => true
  | s :: c => s.ok N && cok N c

theorem fm_den0 {F : Fm} {a : F.α} {E : List Ad} : c0den E (F.sg a) = c0den [] (F.sg a) := by
  have := c0ext (E := []) (X := E) (F.hok a)
  simpa using this
theorem fden_length {F : Fm} : ∀ {l : List F.α}, (∀ a ∈ l, F.wf a) → (fden F l).length = l.length * F.sz
  | [], _ => by simp [fden]
  | a :: l, h => by
    have h1 := c0len (E := []) ((F.hwf a).1 (h a (by simp)))
    have h2 := fden_length (F := F) (l := l) (fun b hb => h b (by simp [hb]))
    simp only [fden, List.length_append, h1, h2, F.hsz, List.length_cons, Nat.succ_mul]
    omega
theorem fden_append {F : Fm} : ∀ (a b : List F.α), fden F (a ++ b) = fden F a ++ fden F b
  | [], b => rfl
  | x :: a, b => by simp [fden, fden_append a b]
theorem fden_flat {F : Fm} : ∀ {l : List F.α}, ∀ u ∈ fden F l, u.oneCell' = true
  | [], u, hu => by simp [fden] at hu
  | a :: l, u, hu => by
    simp only [fden, List.mem_append] at hu
    rcases hu with hu | hu
    · exact c0flat (F.hok a) u hu
    · exact fden_flat u hu
theorem Sg.len {E : List Ad} {s : Sg FM} (h : s.wf) : (s.den E).length = s.n := by
  cases s with
  | b s => exact Sg0.len h
  | f j l n =>
    obtain ⟨h1, h2⟩ := h
    simp only [Sg.den, Sg.n, fden_length h2, h1]
theorem clen {E : List Ad} : ∀ {c : Ce FM}, cwf c → (cden E c).length = cn c
  | [], _ => rfl
  | s :: c, h => by simp [cden, cn, Sg.len h.1, clen h.2]
theorem cden_append {E : List Ad} : ∀ (a b : Ce FM), cden E (a ++ b) = cden E a ++ cden E b
  | [], b => rfl
  | s :: a, b => by simp [cden, cden_append a b]
theorem cwf_append : ∀ {a b : Ce FM}, cwf (a ++ b) ↔ cwf a ∧ cwf b
  | [], b => by simp [cwf]
  | s :: a, b => by simp [cwf, cwf_append (a := a), and_assoc]
theorem cok_append {N : Nat} : ∀ {a b : Ce FM}, cok N (a ++ b) = true ↔ cok N a = true ∧ cok N b = true
  | [], b => by simp [cok]
  | s :: a, b => by simp [cok, cok_append (a := a), and_assoc]
theorem cn_append : ∀ (a b : Ce FM), cn (a ++ b) = cn a + cn b
  | [], b => by simp [cn]
  | s :: a, b => by simp [cn, cn_append a b, Nat.add_assoc]
theorem Sg.flat {E : List Ad} {N : Nat} {s : Sg FM} (h : s.ok N = true) : ∀ u ∈ s.den E, u.oneCell' = true := by
  cases s with
  | b s => exact Sg0.flat h
  | f j l n => exact fden_flat
theorem cflat {E : List Ad} {N : Nat} : ∀ {c : Ce FM}, cok N c = true → ∀ u ∈ cden E c, u.oneCell' = true
  | [], _, u, hu => by simp [cden] at hu
  | s :: c, h, u, hu => by
    simp only [cok, Bool.and_eq_true] at h
    simp only [cden, List.mem_append] at hu
    rcases hu with hu | hu
    · exact Sg.flat h.1 u hu
    · exact cflat h.2 u hu
theorem Sg.ext {E X : List Ad} {s : Sg FM} (h : s.ok E.length = true) : s.den (E ++ X) = s.den E := by
  cases s with
  | b s => exact Sg0.ext h
  | f j l n => rfl
theorem cext {E X : List Ad} : ∀ {c : Ce FM}, cok E.length c = true → cden (E ++ X) c = cden E c
  | [], _ => rfl
  | s :: c, h => by
    simp only [cok, Bool.and_eq_true] at h
    simp only [cden, Sg.ext h.1, cext h.2]
theorem cok_mono {n m : Nat} (hm : n ≤ m) : ∀ {c : Ce FM}, cok n c = true → cok m c = true
  | [], _ => rfl
  | .b s :: c, h => by
    simp only [cok, Sg.ok, Bool.and_eq_true] at h ⊢
    exact ⟨Sg0.ok_mono h.1 hm, cok_mono hm h.2⟩
  | .f j l n :: c, h => by
    simp only [cok, Sg.ok, Bool.true_and] at h ⊢
    exact cok_mono hm h

def up0 (c : List Sg0) : Ce FM := c.map .b
theorem up0_den {E : List Ad} : ∀ (c : List Sg0), cden E (up0 (FM := FM) c) = c0den E c
  | [] => rfl
  | s :: c => by have := up0_den (E := E) c; simp only [up0, List.map_cons, cden, c0den, Sg.den] at this ⊢; rw [this]
theorem up0_wf : ∀ {c : List Sg0}, c0wf c → cwf (up0 (FM := FM) c)
  | [], _ => trivial
  | s :: c, h => ⟨h.1, up0_wf h.2⟩
theorem up0_ok {N : Nat} : ∀ {c : List Sg0}, c0ok N c = true → cok N (up0 (FM := FM) c) = true
  | [], _ => rfl
  | s :: c, h => by
    simp only [c0ok, Bool.and_eq_true] at h
    simp only [up0, List.map_cons, cok, Sg.ok, Bool.and_eq_true]
    exact ⟨h.1, up0_ok h.2⟩
theorem up0_n : ∀ (c : List Sg0), cn (up0 (FM := FM) c) = c0n c
  | [] => rfl
  | s :: c => by have := up0_n c; simp only [up0, List.map_cons, cn, c0n, Sg.n] at this ⊢; rw [this]
def dn0 : Ce FM → Option (List Sg0)
  | [] => some []
  | .b s :: c => (dn0 c).map (s :: ·)
  | .f .. :: _ => none
theorem dn0_spec : ∀ {c : Ce FM} {c0 : List Sg0}, dn0 c = some c0 → c = up0 c0
  | [], c0, h => by simp [dn0] at h; subst h; rfl
  | .b s :: c, c0, h => by
    simp only [dn0] at h
    obtain ⟨r, hr, rfl⟩ := Option.map_eq_some_iff.1 h
    rw [dn0_spec hr]; rfl
  | .f .. :: _, _, h => by simp [dn0] at h
theorem up0_wf' : ∀ {c : List Sg0}, cwf (up0 (FM := FM) c) → c0wf c
  | [], _ => trivial
  | s :: c, h => ⟨h.1, up0_wf' h.2⟩
theorem up0_ok' {N : Nat} : ∀ {c : List Sg0}, cok N (up0 (FM := FM) c) = true → c0ok N c = true
  | [], _ => rfl
  | s :: c, h => by
    simp only [up0, List.map_cons, cok, Sg.ok, Bool.and_eq_true] at h
    simp only [c0ok, Bool.and_eq_true]
    exact ⟨h.1, up0_ok' h.2⟩

/-! ### One record of a run -/
theorem fden_get {F : Fm} : ∀ {l : List F.α} {i : Nat}, (∀ a ∈ l, F.wf a) → i < l.length →
    ((fden F l).drop (i * F.sz)).take F.sz = c0den [] (F.sg (l.getD i F.d)) ∧ F.wf (l.getD i F.d)
  | [], i, _, h => by simp at h
  | a :: l, 0, hw, _ => by
    have h1 := c0len (E := []) ((F.hwf a).1 (hw a (by simp)))
    rw [F.hsz] at h1
    simp only [fden, Nat.zero_mul, List.drop_zero, List.getD_cons_zero]
    exact ⟨by rw [← h1, List.take_append_of_le_length (Nat.le_refl _), List.take_length], hw a (by simp)⟩
  | a :: l, i + 1, hw, h => by
    have h1 := c0len (E := []) ((F.hwf a).1 (hw a (by simp)))
    rw [F.hsz] at h1
    obtain ⟨g1, g2⟩ := fden_get (F := F) (l := l) (i := i) (fun b hb => hw b (by simp [hb])) (by simpa using h)
    simp only [fden, List.getD_cons_succ, Nat.succ_mul]
    refine ⟨?_, g2⟩
    rw [List.drop_append, show (c0den [] (F.sg a)).drop (i * F.sz + F.sz) = [] from List.drop_of_length_le (by omega), List.nil_append, h1, show i * F.sz + F.sz - F.sz = i * F.sz by omega]
    exact g1

theorem fden_set {F : Fm} : ∀ {l : List F.α} {i : Nat} {a : F.α}, (∀ b ∈ l, F.wf b) → F.wf a → i < l.length → fden F (l.set i a) = blit (fden F l) (i * F.sz) (c0den [] (F.sg a))
  | [], i, _, _, _, h => by simp at h
  | b :: l, 0, a, hw, ha, _ => by
    have h1 := c0len (E := []) ((F.hwf b).1 (hw b (by simp)))
    have h2 := c0len (E := []) ((F.hwf a).1 ha)
    rw [F.hsz] at h1 h2
    simp only [fden, List.set_cons_zero, Nat.zero_mul, blit, List.take_zero, List.nil_append, Nat.zero_add, h2]
    congr 1
    rw [← h1, List.drop_append_of_le_length (Nat.le_refl _), List.drop_length, List.nil_append]
  | b :: l, i + 1, a, hw, ha, h => by
    have h1 := c0len (E := []) ((F.hwf b).1 (hw b (by simp)))
    rw [F.hsz] at h1
    have ih := fden_set (F := F) (l := l) (i := i) (a := a) (fun b hb => hw b (by simp [hb])) ha (by simpa using h)
    simp only [fden, List.set_cons_succ, Nat.succ_mul]
    rw [ih, blit_right (by omega), h1, show i * F.sz + F.sz - F.sz = i * F.sz by omega]

theorem Sg0.put_len {a v : List Value} {o : Nat} (h : o + v.length ≤ a.length) : (blit a o v).length = a.length := by
  simp only [blit, List.length_append, List.length_take, List.length_drop]; omega

/-- The i-th of a run, and how many there are. -/
def Sg.elem : Sg FM → Nat → Nat → Option (List Sg0 × Nat)
  | .b (.iz k l m), i, st => bif Nat.beq st 1 then some ([.cl (.xv (.int k (l.getD i 0)))], m) else none
  | .f j l m, i, st => bif Nat.beq st (FM j).sz then some ((FM j).sg (l.getD i (FM j).d), m) else none
  | _, _, _ => none
def Sg.eput : Sg FM → Nat → List Sg0 → Option (Sg FM)
  | .b (.iz k l m), i, [.cl (.xv (.int k' x))] => bif decide (k = k') then some (.b (.iz k (l.set i x) m)) else none
  | .f j l m, i, e => ((FM j).of e).map fun a => .f j (l.set i a) m
  | _, _, _ => none

theorem Sg.elem_spec {E : List Ad} {N : Nat} {s : Sg FM} {i st m : Nat} {e : List Sg0} (h : s.elem i st = some (e, m)) (hw : s.wf) (hi : i < m) :
    ((s.den E).drop (i * st)).take st = c0den E e ∧ c0wf e ∧ c0ok N e = true ∧ c0n e = st ∧ i * st + st ≤ s.n := by
  unfold Sg.elem at h
  split at h
  · rename_i k l m'
    simp only [cond_eq_ite] at h
    split at h
    · rename_i hc
      have hc := beq_n hc; subst hc
      simp only [Option.some.injEq, Prod.mk.injEq] at h
      obtain ⟨rfl, rfl⟩ := h
      have hw : l.length = m' := hw
      refine ⟨?_, ⟨trivial, trivial⟩, rfl, rfl, by simp [Sg.n, Sg0.n]; omega⟩
      rw [Nat.mul_one]
      exact take_one (iv_get (by omega))
    · cases h
  · rename_i j l m'
    simp only [cond_eq_ite] at h
    split at h
    · rename_i hc
      have hc := beq_n hc; subst hc
      simp only [Option.some.injEq, Prod.mk.injEq] at h
      obtain ⟨rfl, rfl⟩ := h
      obtain ⟨h1, h2⟩ := hw
      obtain ⟨g1, g2⟩ := fden_get (F := FM j) (l := l) (i := i) h2 (by omega)
      refine ⟨by simp only [Sg.den]; exact g1.trans fm_den0.symm, ((FM j).hwf _).1 g2, c0ok_mono (Nat.zero_le _) ((FM j).hok _), (FM j).hsz _, ?_⟩
      simp only [Sg.n]
      have := Nat.mul_le_mul_right (FM j).sz (show i + 1 ≤ m' by omega)
      rw [Nat.succ_mul] at this
      omega
    · cases h
  · cases h

theorem Sg.eput_spec {E : List Ad} {N : Nat} {s s' : Sg FM} {i st m : Nat} {e e0 : List Sg0} (h0 : s.elem i st = some (e0, m)) (h : s.eput i e = some s') (hw : s.wf) (he : c0wf e) (hn : c0n e = st) (hi : i < m) :
    s'.den E = blit (s.den E) (i * st) (c0den E e) ∧ s'.wf ∧ s'.ok N = true ∧ s'.n = s.n := by
  unfold Sg.eput at h
  split at h
  · rename_i k l m' k' x
    simp only [cond_eq_ite] at h
    split at h
    · rename_i hc
      have hc := of_decide_eq_true hc; subst hc
      simp only [Option.some.injEq] at h; subst h
      simp only [c0n, Sg0.n] at hn; subst hn
      simp only [Sg.elem, cond_eq_ite] at h0
      split at h0
      · simp only [Option.some.injEq, Prod.mk.injEq] at h0
        obtain ⟨-, rfl⟩ := h0
        have hw : l.length = m' := hw
        refine ⟨?_, by simpa [Sg.wf, Sg0.wf] using hw, rfl, rfl⟩
        simp only [Sg.den, Sg0.den, c0den, S0.den, List.append_nil, Nat.add_zero, Nat.mul_one]
        exact (iv_set k l i x (by omega)).symm
      · cases h0
    · cases h
  · rename_i j l m'
    obtain ⟨a, ha, rfl⟩ := Option.map_eq_some_iff.1 h
    have hs := (FM j).hmk _ _ ha
    simp only [Sg.elem, cond_eq_ite] at h0
    split at h0
    · rename_i hc
      have hc := beq_n hc
      simp only [Option.some.injEq, Prod.mk.injEq] at h0
      obtain ⟨-, rfl⟩ := h0
      obtain ⟨h1, h2⟩ := hw
      have hwa : (FM j).wf a := ((FM j).hwf a).2 (by rw [hs]; exact he)
      refine ⟨?_, ⟨by simpa using h1, fun b hb => ?_⟩, rfl, rfl⟩
      · simp only [Sg.den]
        rw [fden_set h2 hwa (by omega), hc, ← hs, fm_den0 (E := E)]
      · rcases List.mem_or_eq_of_mem_set hb with hb | rfl
        · exact h2 b hb
        · exact hwa
    · cases h0
  · cases h

/-! ### Parts and stores of rows -/
def Sg.part : Sg FM → Nat → Nat → Option (Ce FM)
  | .b s, o, n => (s.part o n).map up0
  | .f j l m, o, n =>
    bif Nat.blt (o / (FM j).sz) m then (c0sub ((FM j).sg (l.getD (o / (FM j).sz) (FM j).d)) (o % (FM j).sz) n).map up0 else none
def Sg.putp : Sg FM → Nat → List Sg0 → Option (Sg FM)
  | .b s, o, v => (s.putp o v).map .b
  | .f j l m, o, v =>
    bif Nat.blt (o / (FM j).sz) m then (c0put ((FM j).sg (l.getD (o / (FM j).sz) (FM j).d)) (o % (FM j).sz) v).bind fun e => Sg.eput (.f j l m) (o / (FM j).sz) e else none

theorem drop_take_drop {l : List Value} {a b o n : Nat} (h : o + n ≤ b) : (((l.drop a).take b).drop o).take n = (l.drop (a + o)).take n := by
  rw [List.drop_take, List.take_take, Nat.min_eq_left (by omega), List.drop_drop]

theorem blit_blit {l v : List Value} {a b o : Nat} (h : o + v.length ≤ b) (hb : a + b ≤ l.length) : blit l a (blit ((l.drop a).take b) o v) = blit l (a + o) v := by
  have hl : ((l.drop a).take b).length = b := by simp; omega
  have hl2 : (blit ((l.drop a).take b) o v).length = b := by rw [Sg0.put_len (by omega), hl]
  have e : l = l.take a ++ ((l.drop a).take b ++ l.drop (a + b)) := by
    rw [← List.drop_drop, List.take_append_drop, List.take_append_drop]
  have ha : (l.take a).length = a := by simp; omega
  have r : blit l (a + o) v = l.take a ++ (blit ((l.drop a).take b) o v ++ l.drop (a + b)) := by
    conv => lhs; rw [e]
    rw [blit_right (by omega), ha, show a + o - a = o by omega, blit_left (by omega)]
  rw [r]
  generalize blit ((l.drop a).take b) o v = y at hl2
  simp [blit, hl2]

theorem Sg.part_spec {E : List Ad} {N : Nat} {s : Sg FM} {o n : Nat} {c : Ce FM} (h : s.part o n = some c) (hw : s.wf) (hk : s.ok N = true) :
    ((s.den E).drop o).take n = cden E c ∧ cwf c ∧ cok N c = true ∧ cn c = n ∧ o + n ≤ s.n := by
  cases s with
  | b s =>
    obtain ⟨r, hr, rfl⟩ := Option.map_eq_some_iff.1 h
    obtain ⟨g1, g2, g3, g4, g5⟩ := Sg0.part_spec (E := E) hr hw hk
    exact ⟨by rw [up0_den]; exact g1, up0_wf g2, up0_ok g3, by rw [up0_n]; exact g4, g5⟩
  | f j l m =>
    simp only [Sg.part, cond_eq_ite] at h
    split at h
    · rename_i hc
      have hc := Nat.blt_eq.mp hc
      obtain ⟨r, hr, rfl⟩ := Option.map_eq_some_iff.1 h
      have he : (Sg.f j l m : Sg FM).elem (o / (FM j).sz) (FM j).sz = some ((FM j).sg (l.getD (o / (FM j).sz) (FM j).d), m) := by simp [Sg.elem]
      obtain ⟨q1, q2, q3, q4, q5⟩ := Sg.elem_spec (E := E) (N := N) he hw hc
      obtain ⟨g1, g2, g3, g4, g5⟩ := c0sub_spec (E := E) hr q2 q3
      rw [q4] at g5
      have hdm : o / (FM j).sz * (FM j).sz + o % (FM j).sz = o := by rw [Nat.mul_comm]; exact Nat.div_add_mod _ _
      refine ⟨?_, up0_wf g2, up0_ok g3, by rw [up0_n]; exact g4, by omega⟩
      rw [up0_den, ← g1, ← q1, drop_take_drop g5, hdm]
    · cases h

theorem Sg.putp_spec {E : List Ad} {N : Nat} {s s' : Sg FM} {o : Nat} {v : List Sg0} (h : s.putp o v = some s') (hw : s.wf) (hv : c0wf v) (hvk : c0ok N v = true) :
    s'.den E = blit (s.den E) o (c0den E v) ∧ s'.wf ∧ s'.ok N = true ∧ s'.n = s.n ∧ o + c0n v ≤ s.n := by
  cases s with
  | b s =>
    obtain ⟨r, hr, rfl⟩ := Option.map_eq_some_iff.1 h
    exact Sg0.putp_spec (E := E) hr hw hv
  | f j l m =>
    simp only [Sg.putp, cond_eq_ite] at h
    split at h
    · rename_i hc
      have hc := Nat.blt_eq.mp hc
      obtain ⟨e, he', hp⟩ := Option.bind_eq_some_iff.1 h
      have he : (Sg.f j l m : Sg FM).elem (o / (FM j).sz) (FM j).sz = some ((FM j).sg (l.getD (o / (FM j).sz) (FM j).d), m) := by simp [Sg.elem]
      obtain ⟨q1, q2, q3, q4, q5⟩ := Sg.elem_spec (E := E) (N := N) he hw hc
      obtain ⟨g1, g2, g3, g4, g5⟩ := c0put_spec (E := E) he' q2 q3 hv hvk
      obtain ⟨p1, p2, p3, p4⟩ := Sg.eput_spec (E := E) (N := N) he hp hw g2 (by rw [g4, q4]) hc
      rw [q4] at g5
      have hl := Sg.len (E := E) hw
      have hvl := c0len (E := E) hv
      have hdm : o / (FM j).sz * (FM j).sz + o % (FM j).sz = o := by rw [Nat.mul_comm]; exact Nat.div_add_mod _ _
      refine ⟨?_, p2, p3, p4, by omega⟩
      rw [p1, g1, ← q1, blit_blit (by omega) (by omega), hdm]
    · cases h

def csub : Ce FM → Nat → Nat → Option (Ce FM)
  | [], _, _ => none
  | s :: c, o, n =>
    bif Nat.beq o 0 && Nat.beq s.n n then some [s]
    else match o with
    | 0 => bif Nat.ble n s.n then s.part 0 n else (csub c 0 (n - s.n)).map (s :: ·)
    | o + 1 => bif Nat.ble s.n (o + 1) then csub c (o + 1 - s.n) n else s.part (o + 1) n

theorem csub_spec {E : List Ad} {N : Nat} : ∀ {c : Ce FM} {o n : Nat} {r : Ce FM}, csub c o n = some r → cwf c → cok N c = true →
    ((cden E c).drop o).take n = cden E r ∧ cwf r ∧ cok N r = true ∧ cn r = n ∧ o + n ≤ cn c
  | [], _, _, _, h, _, _ => by simp [csub] at h
  | s :: c, o, n, r, h, hw, hk => by
    simp only [cok, Bool.and_eq_true] at hk
    have hl := Sg.len (E := E) hw.1
    have hl2 := clen (E := E) hw.2
    simp only [csub, cond_eq_ite] at h
    split at h
    · rename_i hc
      simp only [Bool.and_eq_true] at hc
      have h1 := beq_n hc.1; have h2 := beq_n hc.2
      subst h1 h2
      simp only [Option.some.injEq] at h; subst h
      refine ⟨?_, ⟨hw.1, trivial⟩, by simp [cok, hk.1], by simp [cn], by simp [cn]⟩
      simp only [cden, List.drop_zero, List.append_nil]
      rw [← hl, List.take_append_of_le_length (Nat.le_refl _), List.take_length]
    · split at h
      · split at h
        · obtain ⟨g1, g2, g3, g4, g5⟩ := Sg.part_spec (E := E) h hw.1 hk.1
          refine ⟨?_, g2, g3, g4, by simp [cn]; omega⟩
          rw [cden, drop_take_left (by omega)]; exact g1
        · rename_i hc
          have hc : s.n < n := by
            rcases Nat.lt_or_ge s.n n with h' | h'
            · exact h'
            · exact absurd (Nat.ble_eq.mpr h') hc
          obtain ⟨r', hr, rfl⟩ := Option.map_eq_some_iff.1 h
          obtain ⟨g1, g2, g3, g4, g5⟩ := csub_spec hr hw.2 hk.2
          refine ⟨?_, ⟨hw.1, g2⟩, by simp [cok, hk.1, g3], by simp [cn, g4]; omega, by simp [cn]; omega⟩
          simp only [cden, List.drop_zero] at g1 ⊢
          rw [← g1, List.take_append, List.take_of_length_le (by omega), hl]
      · rename_i o
        split at h
        · rename_i hc
          have hc := Nat.le_of_ble_eq_true hc
          obtain ⟨g1, g2, g3, g4, g5⟩ := csub_spec h hw.2 hk.2
          refine ⟨?_, g2, g3, g4, by simp [cn]; omega⟩
          rw [cden, drop_take_right (by omega), hl]; exact g1
        · obtain ⟨g1, g2, g3, g4, g5⟩ := Sg.part_spec (E := E) h hw.1 hk.1
          refine ⟨?_, g2, g3, g4, by simp [cn]; omega⟩
          rw [cden, drop_take_left (by omega)]; exact g1

def cdrop : Ce FM → Nat → Option (Ce FM)
  | c, 0 => some c
  | [], _ + 1 => none
  | s :: c, n + 1 => bif Nat.ble s.n (n + 1) && Nat.ble 1 s.n then cdrop c (n + 1 - s.n) else none

theorem cdrop_spec {E : List Ad} {N : Nat} : ∀ {c : Ce FM} {n : Nat} {r : Ce FM}, cdrop c n = some r → cwf c → cok N c = true →
    cden E r = (cden E c).drop n ∧ cwf r ∧ cok N r = true ∧ cn r + n = cn c
  | c, 0, r, h, hw, hk => by
    have : c = r := by cases c <;> simpa [cdrop] using h
    subst this
    exact ⟨by simp, hw, hk, by simp⟩
  | [], n + 1, r, h, _, _ => by simp [cdrop] at h
  | s :: c, n + 1, r, h, hw, hk => by
    simp only [cok, Bool.and_eq_true] at hk
    simp only [cdrop, cond_eq_ite] at h
    split at h
    · rename_i hc
      simp only [Bool.and_eq_true] at hc
      have hc := Nat.le_of_ble_eq_true hc.1
      obtain ⟨g1, g2, g3, g4⟩ := cdrop_spec (E := E) h hw.2 hk.2
      have hl := Sg.len (E := E) hw.1
      refine ⟨?_, g2, g3, by simp [cn]; omega⟩
      rw [g1, cden, List.drop_append, show (s.den E).drop (n + 1) = [] from List.drop_of_length_le (by omega), List.nil_append, hl]
    · cases h

def cput : Ce FM → Nat → Ce FM → Option (Ce FM)
  | [], _, _ => none
  | s :: c, 0, v => bif Nat.ble s.n (cn v) then (cdrop (s :: c) (cn v)).map (v ++ ·) else (dn0 v).bind fun v => (s.putp 0 v).map (· :: c)
  | s :: c, o + 1, v => bif Nat.ble s.n (o + 1) then (cput c (o + 1 - s.n) v).map (s :: ·) else (dn0 v).bind fun v => (s.putp (o + 1) v).map (· :: c)

theorem cput_spec {E : List Ad} {N : Nat} : ∀ {c : Ce FM} {o : Nat} {v r : Ce FM}, cput c o v = some r → cwf c → cok N c = true → cwf v → cok N v = true →
    cden E r = blit (cden E c) o (cden E v) ∧ cwf r ∧ cok N r = true ∧ cn r = cn c ∧ o + cn v ≤ cn c
  | [], o, v, r, h, _, _, _, _ => by simp [cput] at h
  | s :: c, 0, v, r, h, hw, hk, hv, hvk => by
    have hvl := clen (E := E) hv
    simp only [cput, cond_eq_ite] at h
    split at h
    · obtain ⟨r', hr, rfl⟩ := Option.map_eq_some_iff.1 h
      obtain ⟨g1, g2, g3, g4⟩ := cdrop_spec (E := E) hr hw hk
      refine ⟨?_, cwf_append.2 ⟨hv, g2⟩, cok_append.2 ⟨hvk, g3⟩, by rw [cn_append]; omega, by omega⟩
      rw [cden_append, g1, blit, hvl]
      simp
    · obtain ⟨v0, hv0, h9⟩ := Option.bind_eq_some_iff.1 h
      have := dn0_spec hv0; subst this
      obtain ⟨s', hs, rfl⟩ := Option.map_eq_some_iff.1 h9
      simp only [cok, Bool.and_eq_true] at hk ⊢
      obtain ⟨g1, g2, g3, g4, g5⟩ := Sg.putp_spec (E := E) (N := N) hs hw.1 (up0_wf' hv) (up0_ok' hvk)
      rw [up0_den, up0_n] at *
      refine ⟨?_, ⟨g2, hw.2⟩, ⟨g3, hk.2⟩, by simp [cn, g4], by simp [cn]; omega⟩
      rw [cden, cden, g1, blit_left (by rw [Sg.len hw.1, hvl]; omega)]
  | s :: c, o + 1, v, r, h, hw, hk, hv, hvk => by
    have hvl := clen (E := E) hv
    simp only [cput, cond_eq_ite] at h
    simp only [cok, Bool.and_eq_true] at hk ⊢
    split at h
    · rename_i hc
      have hc := Nat.le_of_ble_eq_true hc
      obtain ⟨r', hr, rfl⟩ := Option.map_eq_some_iff.1 h
      obtain ⟨g1, g2, g3, g4, g5⟩ := cput_spec (E := E) hr hw.2 hk.2 hv hvk
      refine ⟨?_, ⟨hw.1, g2⟩, by simp [cok, hk.1, g3], by simp [cn, g4], by simp [cn]; omega⟩
      rw [cden, cden, g1, blit_right (by rw [Sg.len hw.1]; omega), Sg.len hw.1]
    · obtain ⟨v0, hv0, h9⟩ := Option.bind_eq_some_iff.1 h
      have := dn0_spec hv0; subst this
      obtain ⟨s', hs, rfl⟩ := Option.map_eq_some_iff.1 h9
      obtain ⟨g1, g2, g3, g4, g5⟩ := Sg.putp_spec (E := E) (N := N) hs hw.1 (up0_wf' hv) (up0_ok' hvk)
      rw [up0_den, up0_n] at *
      refine ⟨?_, ⟨g2, hw.2⟩, by simp [cok, hk.2, g3], by simp [cn, g4], by simp [cn]; omega⟩
      rw [cden, cden, g1, blit_left (by rw [Sg.len hw.1, hvl]; omega)]

/-- The part of a row that begins at a place: what stands ahead of it, it, and what stands behind it. -/
def catq : Ce FM → Nat → Option (Ce FM × Sg FM × Ce FM)
  | [], _ => none
  | s :: c, 0 => some ([], s, c)
  | s :: c, o + 1 => bif Nat.ble s.n (o + 1) then (catq c (o + 1 - s.n)).map fun (a, x, b) => (s :: a, x, b) else none
theorem catq_spec : ∀ {c : Ce FM} {o : Nat} {a b : Ce FM} {x : Sg FM}, catq c o = some (a, x, b) → c = a ++ x :: b ∧ cn a = o
  | [], _, _, _, _, h => by simp [catq] at h
  | s :: c, 0, a, b, x, h => by
    simp only [catq, Option.some.injEq, Prod.mk.injEq] at h
    obtain ⟨rfl, rfl, rfl⟩ := h
    exact ⟨rfl, rfl⟩
  | s :: c, o + 1, a, b, x, h => by
    simp only [catq, cond_eq_ite] at h
    split at h
    · rename_i hc
      have hc := Nat.le_of_ble_eq_true hc
      obtain ⟨⟨a', x', b'⟩, hr, h⟩ := Option.map_eq_some_iff.1 h
      simp only [Prod.mk.injEq] at h
      obtain ⟨rfl, rfl, rfl⟩ := h
      obtain ⟨g1, g2⟩ := catq_spec hr
      exact ⟨by rw [g1]; rfl, by simp [cn, g2]; omega⟩
    · cases h

/-- A part of an element at a place. -/
def cdyn (c : Ce FM) (o i st o2 n : Nat) : Option (List Sg0 × Nat) :=
  (catq c o).bind fun (_, x, _) => (x.elem i st).bind fun (e, m) => (c0sub e o2 n).map fun r => (r, m)
def cdynput (c : Ce FM) (o i st o2 : Nat) (v : Ce FM) : Option (Ce FM × Nat) :=
  (catq c o).bind fun (a, x, b) => (x.elem i st).bind fun (e, m) => (dn0 v).bind fun v => (c0put e o2 v).bind fun e' => (x.eput i e').map fun x' => (a ++ x' :: b, m)

theorem mid_take {a x b : List Value} {o n q : Nat} (ho : a.length = q) (h : o + n ≤ x.length) : ((a ++ (x ++ b)).drop (q + o)).take n = (x.drop o).take n := by
  rw [List.drop_append, List.drop_of_length_le (by omega), List.nil_append, show q + o - a.length = o by omega, drop_take_left h]

theorem cdyn_spec {E : List Ad} {N : Nat} {c : Ce FM} {o i st o2 n m : Nat} {r : List Sg0} (h : cdyn c o i st o2 n = some (r, m)) (hw : cwf c) (hi : i < m) :
    ((cden E c).drop (o + i * st + o2)).take n = c0den E r ∧ c0wf r ∧ c0ok N r = true ∧ c0n r = n ∧ o + i * st + o2 + n ≤ (cden E c).length := by
  obtain ⟨⟨a, x, b⟩, h1, h⟩ := Option.bind_eq_some_iff.1 h
  obtain ⟨⟨e, m'⟩, h2, h⟩ := Option.bind_eq_some_iff.1 h
  obtain ⟨r', h3, h⟩ := Option.map_eq_some_iff.1 h
  simp only [Prod.mk.injEq] at h
  obtain ⟨rfl, rfl⟩ := h
  obtain ⟨rfl, ho⟩ := catq_spec h1
  obtain ⟨wa, wx⟩ := cwf_append.1 hw
  obtain ⟨q1, q2, q3, q4, q5⟩ := Sg.elem_spec (E := E) (N := N) h2 wx.1 hi
  obtain ⟨g1, g2, g3, g4, g5⟩ := c0sub_spec (E := E) h3 q2 q3
  rw [q4] at g5
  have hl := Sg.len (E := E) wx.1
  have hla := clen (E := E) wa
  refine ⟨?_, g2, g3, g4, by rw [cden_append]; simp only [cden, List.length_append]; omega⟩
  rw [cden_append]
  simp only [cden]
  rw [Nat.add_assoc, mid_take (by omega) (by omega), ← g1, ← q1, drop_take_drop g5]

theorem cdynput_spec {E : List Ad} {N : Nat} {c c' v : Ce FM} {o i st o2 m : Nat} (h : cdynput c o i st o2 v = some (c', m)) (hw : cwf c) (hk : cok N c = true) (hv : cwf v) (hvk : cok N v = true) (hi : i < m) :
    cden E c' = blit (cden E c) (o + i * st + o2) (cden E v) ∧ cwf c' ∧ cok N c' = true ∧ cn c' = cn c ∧ o + i * st + o2 + cn v ≤ (cden E c).length := by
  obtain ⟨⟨a, x, b⟩, h1, h⟩ := Option.bind_eq_some_iff.1 h
  obtain ⟨⟨e, m'⟩, h2, h⟩ := Option.bind_eq_some_iff.1 h
  obtain ⟨v0, h3, h⟩ := Option.bind_eq_some_iff.1 h
  obtain ⟨e', h4, h⟩ := Option.bind_eq_some_iff.1 h
  obtain ⟨x', h5, h⟩ := Option.map_eq_some_iff.1 h
  simp only [Prod.mk.injEq] at h
  obtain ⟨rfl, rfl⟩ := h
  have := dn0_spec h3; subst this
  obtain ⟨rfl, ho⟩ := catq_spec h1
  obtain ⟨wa, wx⟩ := cwf_append.1 hw
  obtain ⟨ka, kx⟩ := cok_append.1 hk
  simp only [cok, Bool.and_eq_true] at kx
  have hv' := up0_wf' hv
  obtain ⟨q1, q2, q3, q4, q5⟩ := Sg.elem_spec (E := E) (N := N) h2 wx.1 hi
  obtain ⟨g1, g2, g3, g4, g5⟩ := c0put_spec (E := E) h4 q2 q3 hv' (up0_ok' hvk)
  obtain ⟨p1, p2, p3, p4⟩ := Sg.eput_spec (E := E) (N := N) h2 h5 wx.1 g2 (by rw [g4, q4]) hi
  rw [q4] at g5
  have hl := Sg.len (E := E) wx.1
  have hla := clen (E := E) wa
  have hvl := c0len (E := E) hv'
  refine ⟨?_, cwf_append.2 ⟨wa, p2, wx.2⟩, cok_append.2 ⟨ka, by simp [cok, p3, kx.2]⟩, by simp [cn_append, cn, p4], by rw [cden_append, up0_n]; simp only [cden, List.length_append]; omega⟩
  rw [cden_append, cden_append, up0_den]
  simp only [cden]
  rw [p1, g1, ← q1, blit_blit (by omega) (by omega), blit_right (by omega), hla, ho, blit_left (by omega)]
  congr 3
  congr 1; omega
end
end Go.Px
