/-
  Cells told by their shape: values, runs of whole numbers, runs of records; parts of them and stores into them by computing. No condition.
-/
import Derived.Test.YtogpbbgcdeiplaaZM
set_option linter.all false
namespace Go.Px
open Go.RowKit

/-- A value of one cell: as it is; a place in a known block; a slice of one. -/
inductive S0 where
  | xv (v : Value)
  | kb (b : Bool)
  | st (l : List Int)
  | pt (id off : Nat)
  | qt (id o i s o2 : Nat)
  | sc (id o n c : Nat) (t : Bool)
  | yl (id : Nat)
  | mv (id : Nat)

/-- Where a known block is. -/
inductive Ad where
  | bk (n : Nat)
  | ad (a : Option Addr)

def plc (E : List Ad) (id off : Nat) : Addr := match E[id]? with
  | some (.bk n) => ⟨n, off, none⟩
  | some (.ad a) => adr a off
  | none => ⟨0, off, none⟩
def bas (E : List Ad) (id o : Nat) : Option Addr := match E[id]? with
  | some (.bk n) => some ⟨n, o, none⟩
  | some (.ad a) => a
  | none => none

def bno (E : List Ad) (id : Nat) : Nat := match E[id]? with
  | some (.bk b) => b
  | _ => 0
theorem bno_ext {E X : List Ad} {id : Nat} (h : Nat.blt id E.length = true) : bno (E ++ X) id = bno E id := by
  have := Nat.blt_eq.mp h
  unfold bno; rw [List.getElem?_append_left this]
def S0.den (E : List Ad) : S0 → Value
  | .xv v => v
  | .kb b => .bool b
  | .st l => .string (strOfNums l)
  | .pt id off => .pointer (some (plc E id off))
  | .qt id o i s o2 => .pointer (some (plc E id (o + i * s + o2)))
  | .sc id o n c _ => .slice (bas E id o) n c
  | .yl id => .func (.yield (bno E id)) #[] #[]
  | .mv id => .map (some (bno E id))
def S0.ok : S0 → Bool
  | .xv v => v.oneCell'
  | _ => true
def S0.lt (n : Nat) : S0 → Bool
  | .xv _ => true
  | .kb _ => true
  | .st _ => true
  | .pt id _ => Nat.blt id n
  | .qt id _ _ _ _ => Nat.blt id n
  | .sc id _ _ _ _ => Nat.blt id n
  | .yl id => Nat.blt id n
  | .mv id => Nat.blt id n

theorem S0.one {E : List Ad} {x : S0} (h : x.ok = true) : (x.den E).oneCell' = true := by
  cases x <;> first | exact h | simp [S0.den, Value.oneCell']

theorem plc_ext {E X : List Ad} {id off : Nat} (h : Nat.blt id E.length = true) : plc (E ++ X) id off = plc E id off := by
  have := Nat.blt_eq.mp h
  unfold plc; rw [List.getElem?_append_left this]
theorem bas_ext {E X : List Ad} {id off : Nat} (h : Nat.blt id E.length = true) : bas (E ++ X) id off = bas E id off := by
  have := Nat.blt_eq.mp h
  unfold bas; rw [List.getElem?_append_left this]
theorem S0.ext {E X : List Ad} {x : S0} (h : x.lt E.length = true) : x.den (E ++ X) = x.den E := by
  cases x with
  | xv v => rfl
  | kb b => rfl
  | st l => rfl
  | pt id off => simp only [S0.den, plc_ext h]
  | qt id o i s o2 => simp only [S0.den, plc_ext h]
  | sc id o n c t => simp only [S0.den, bas_ext h]
  | yl id => simp only [S0.den, bno_ext h]
  | mv id => simp only [S0.den, bno_ext h]

/-- A part of a row of cells. -/
inductive Sg0 where
  | cl (x : S0)
  | iz (k : IntKind) (l : List Int) (n : Nat)

def Sg0.den (E : List Ad) : Sg0 → List Value
  | .cl x => [x.den E]
  | .iz k l _ => iv k l
def Sg0.n : Sg0 → Nat
  | .cl _ => 1
  | .iz _ _ n => n
def Sg0.wf : Sg0 → Prop
  | .cl _ => True
  | .iz _ l n => l.length = n
def Sg0.ok (N : Nat) : Sg0 → Bool
  | .cl x => x.ok && x.lt N
  | .iz .. => true

def c0den (E : List Ad) : List Sg0 → List Value
  | [] => []
  | s :: c => s.den E ++ c0den E c
def c0n : List Sg0 → Nat
  | [] => 0
  | s :: c => s.n + c0n c
def c0wf : List Sg0 → Prop
  | [] => True
  | s :: c => s.wf ∧ c0wf c
def c0ok (N : Nat) : List Sg0 → Bool
  | [] => true
  | s :: c => s.ok N && c0ok N c

theorem Sg0.len {E : List Ad} {s : Sg0} (h : s.wf) : (s.den E).length = s.n := by
  cases s with
  | cl x => rfl
  | iz k l n => simpa [Sg0.den, Sg0.n, Sg0.wf, iv_length] using h
theorem c0len {E : List Ad} : ∀ {c : List Sg0}, c0wf c → (c0den E c).length = c0n c
  | [], _ => rfl
  | s :: c, h => by simp [c0den, c0n, Sg0.len h.1, c0len h.2]
theorem c0den_append {E : List Ad} : ∀ (a b : List Sg0), c0den E (a ++ b) = c0den E a ++ c0den E b
  | [], b => rfl
  | s :: a, b => by simp [c0den, c0den_append a b]
theorem c0wf_append : ∀ {a b : List Sg0}, c0wf (a ++ b) ↔ c0wf a ∧ c0wf b
  | [], b => by simp [c0wf]
  | s :: a, b => by simp [c0wf, c0wf_append (a := a), and_assoc]
theorem c0ok_append {N : Nat} : ∀ {a b : List Sg0}, c0ok N (a ++ b) = true ↔ c0ok N a = true ∧ c0ok N b = true
  | [], b => by simp [c0ok]
  | s :: a, b => by simp [c0ok, c0ok_append (a := a), and_assoc]
theorem c0n_append : ∀ (a b : List Sg0), c0n (a ++ b) = c0n a + c0n b
  | [], b => by simp [c0n]
  | s :: a, b => by simp [c0n, c0n_append a b, Nat.add_assoc]
theorem Sg0.flat {E : List Ad} {N : Nat} {s : Sg0} (h : s.ok N = true) : ∀ u ∈ s.den E, u.oneCell' = true := by
  cases s with
  | cl x =>
    intro u hu
    simp only [Sg0.den, List.mem_singleton] at hu
    subst hu
    simp only [Sg0.ok, Bool.and_eq_true] at h
    exact S0.one h.1
  | iz k l n => exact iv_flat k l
theorem c0flat {E : List Ad} {N : Nat} : ∀ {c : List Sg0}, c0ok N c = true → ∀ u ∈ c0den E c, u.oneCell' = true
  | [], _, u, hu => by simp [c0den] at hu
  | s :: c, h, u, hu => by
    simp only [c0ok, Bool.and_eq_true] at h
    simp only [c0den, List.mem_append] at hu
    rcases hu with hu | hu
    · exact Sg0.flat h.1 u hu
    · exact c0flat h.2 u hu
theorem Sg0.ext {E X : List Ad} {s : Sg0} (h : s.ok E.length = true) : s.den (E ++ X) = s.den E := by
  cases s with
  | cl x =>
    simp only [Sg0.ok, Bool.and_eq_true] at h
    simp only [Sg0.den, S0.ext h.2]
  | iz k l n => rfl
theorem c0ext {E X : List Ad} : ∀ {c : List Sg0}, c0ok E.length c = true → c0den (E ++ X) c = c0den E c
  | [], _ => rfl
  | s :: c, h => by
    simp only [c0ok, Bool.and_eq_true] at h
    simp only [c0den, Sg0.ext h.1, c0ext h.2]
theorem S0.lt_mono {n m : Nat} {x : S0} (h : x.lt n = true) (hm : n ≤ m) : x.lt m = true := by
  cases x <;> first | rfl | (simp only [S0.lt] at h ⊢; have := Nat.blt_eq.mp h; exact Nat.blt_eq.mpr (by omega))
theorem Sg0.ok_mono {n m : Nat} {s : Sg0} (h : s.ok n = true) (hm : n ≤ m) : s.ok m = true := by
  cases s with
  | cl x =>
    simp only [Sg0.ok, Bool.and_eq_true] at h ⊢
    exact ⟨h.1, S0.lt_mono h.2 hm⟩
  | iz k l n => rfl
theorem c0ok_mono {n m : Nat} (hm : n ≤ m) : ∀ {c : List Sg0}, c0ok n c = true → c0ok m c = true
  | [], _ => rfl
  | s :: c, h => by
    simp only [c0ok, Bool.and_eq_true] at h ⊢
    exact ⟨Sg0.ok_mono h.1 hm, c0ok_mono hm h.2⟩

/-! ### Parts -/
def Sg0.part : Sg0 → Nat → Nat → Option (List Sg0)
  | .cl x, o, n => bif Nat.beq o 0 && Nat.beq n 1 then some [.cl x] else none
  | .iz k l m, o, n =>
    bif Nat.beq o 0 && Nat.beq n m then some [.iz k l m]
    else bif Nat.ble (o + n) m then (bif Nat.beq n 1 then some [.cl (.xv (.int k (l.getD o 0)))] else some [.iz k ((l.drop o).take n) n]) else none

theorem beq_n {a b : Nat} (h : Nat.beq a b = true) : a = b := Nat.eq_of_beq_eq_true h
theorem take_one {l : List Value} {o : Nat} {v : Value} (h : l[o]? = some v) : (l.drop o).take 1 = [v] := by
  obtain ⟨h1, h2⟩ := List.getElem?_eq_some_iff.1 h
  rw [List.drop_eq_getElem_cons h1]; simp [h2]

theorem Sg0.part_spec {E : List Ad} {N : Nat} {s : Sg0} {o n : Nat} {c : List Sg0} (h : s.part o n = some c) (hw : s.wf) (hk : s.ok N = true) :
    ((s.den E).drop o).take n = c0den E c ∧ c0wf c ∧ c0ok N c = true ∧ c0n c = n ∧ o + n ≤ s.n := by
  cases s with
  | cl x =>
    simp only [Sg0.part, cond_eq_ite] at h
    split at h
    · rename_i hc
      simp only [Bool.and_eq_true] at hc
      have h1 := beq_n hc.1; have h2 := beq_n hc.2
      subst h1 h2
      simp only [Option.some.injEq] at h; subst h
      exact ⟨rfl, ⟨trivial, trivial⟩, by simp [c0ok, hk], rfl, Nat.le_refl _⟩
    · cases h
  | iz k l m =>
    simp only [Sg0.wf] at hw
    simp only [Sg0.part, cond_eq_ite] at h
    split at h
    · rename_i hc
      simp only [Bool.and_eq_true] at hc
      have h1 := beq_n hc.1; have h2 := beq_n hc.2
      subst h1 h2
      simp only [Option.some.injEq] at h; subst h
      refine ⟨?_, ⟨hw, trivial⟩, rfl, rfl, by simp [Sg0.n]⟩
      simp only [Sg0.den, c0den, List.drop_zero, List.append_nil]
      exact List.take_of_length_le (by rw [iv_length]; omega)
    · split at h
      · rename_i hc
        have hc := Nat.le_of_ble_eq_true hc
        split at h
        · rename_i h1
          have h1 := beq_n h1
          subst h1
          simp only [Option.some.injEq] at h; subst h
          refine ⟨?_, ⟨trivial, trivial⟩, rfl, rfl, hc⟩
          exact take_one (iv_get (by omega))
        · simp only [Option.some.injEq] at h; subst h
          refine ⟨?_, ⟨by simp [Sg0.wf]; omega, trivial⟩, rfl, rfl, hc⟩
          simp [Sg0.den, c0den, iv, List.map_drop, List.map_take]
      · cases h

def c0sub : List Sg0 → Nat → Nat → Option (List Sg0)
  | [], _, _ => none
  | s :: c, o, n =>
    bif Nat.beq o 0 && Nat.beq s.n n then some [s]
    else match o with
    | 0 => bif Nat.ble n s.n then s.part 0 n else (c0sub c 0 (n - s.n)).map (s :: ·)
    | o + 1 => bif Nat.ble s.n (o + 1) then c0sub c (o + 1 - s.n) n else s.part (o + 1) n

theorem drop_take_left {a b : List Value} {o n : Nat} (h : o + n ≤ a.length) : ((a ++ b).drop o).take n = (a.drop o).take n := by
  rw [List.drop_append_of_le_length (by omega), List.take_append_of_le_length (by simp; omega)]
theorem drop_take_right {a b : List Value} {o n : Nat} (h : a.length ≤ o) : ((a ++ b).drop o).take n = (b.drop (o - a.length)).take n := by
  rw [List.drop_append, List.drop_of_length_le h, List.nil_append]

theorem c0sub_spec {E : List Ad} {N : Nat} : ∀ {c : List Sg0} {o n : Nat} {r : List Sg0}, c0sub c o n = some r → c0wf c → c0ok N c = true →
    ((c0den E c).drop o).take n = c0den E r ∧ c0wf r ∧ c0ok N r = true ∧ c0n r = n ∧ o + n ≤ c0n c
  | [], _, _, _, h, _, _ => by simp [c0sub] at h
  | s :: c, o, n, r, h, hw, hk => by
    simp only [c0ok, Bool.and_eq_true] at hk
    have hl := Sg0.len (E := E) hw.1
    have hl2 := c0len (E := E) hw.2
    simp only [c0sub, cond_eq_ite] at h
    split at h
    · rename_i hc
      simp only [Bool.and_eq_true] at hc
      have h1 := beq_n hc.1; have h2 := beq_n hc.2
      subst h1 h2
      simp only [Option.some.injEq] at h; subst h
      refine ⟨?_, ⟨hw.1, trivial⟩, by simp [c0ok, hk.1], by simp [c0n], by simp [c0n]⟩
      simp only [c0den, List.drop_zero, List.append_nil]
      rw [← hl, List.take_append_of_le_length (Nat.le_refl _), List.take_length]
    · split at h
      · split at h
        · obtain ⟨g1, g2, g3, g4, g5⟩ := Sg0.part_spec (E := E) h hw.1 hk.1
          refine ⟨?_, g2, g3, g4, by simp [c0n]; omega⟩
          rw [c0den, drop_take_left (by omega)]; exact g1
        · rename_i hc
          have hc : s.n < n := by
            rcases Nat.lt_or_ge s.n n with h' | h'
            · exact h'
            · exact absurd (Nat.ble_eq.mpr h') hc
          obtain ⟨r', hr, rfl⟩ := Option.map_eq_some_iff.1 h
          obtain ⟨g1, g2, g3, g4, g5⟩ := c0sub_spec hr hw.2 hk.2
          refine ⟨?_, ⟨hw.1, g2⟩, by simp [c0ok, hk.1, g3], by simp [c0n, g4]; omega, by simp [c0n]; omega⟩
          simp only [c0den, List.drop_zero] at g1 ⊢
          rw [← g1, List.take_append, List.take_of_length_le (by omega), hl]
      · rename_i o
        split at h
        · rename_i hc
          have hc := Nat.le_of_ble_eq_true hc
          obtain ⟨g1, g2, g3, g4, g5⟩ := c0sub_spec h hw.2 hk.2
          refine ⟨?_, g2, g3, g4, by simp [c0n]; omega⟩
          rw [c0den, drop_take_right (by omega), hl]; exact g1
        · obtain ⟨g1, g2, g3, g4, g5⟩ := Sg0.part_spec (E := E) h hw.1 hk.1
          refine ⟨?_, g2, g3, g4, by simp [c0n]; omega⟩
          rw [c0den, drop_take_left (by omega)]; exact g1

/-! ### Stores -/
def Sg0.putp : Sg0 → Nat → List Sg0 → Option Sg0
  | .iz k l m, o, [.cl (.xv (.int k' x))] => bif decide (k = k') && Nat.blt o m then some (.iz k (l.set o x) m) else none
  | .iz k l m, o, [.iz k' l' n] => bif decide (k = k') && Nat.ble (o + n) m then some (.iz k (l.take o ++ (l' ++ l.drop (o + n))) m) else none
  | _, _, _ => none

theorem Sg0.putp_spec {E : List Ad} {N : Nat} {s s' : Sg0} {o : Nat} {v : List Sg0} (h : s.putp o v = some s') (hw : s.wf) (hv : c0wf v) :
    s'.den E = blit (s.den E) o (c0den E v) ∧ s'.wf ∧ s'.ok N = true ∧ s'.n = s.n ∧ o + c0n v ≤ s.n := by
  unfold Sg0.putp at h
  split at h
  · rename_i k l m k' x
    simp only [cond_eq_ite] at h
    split at h
    · rename_i hc
      simp only [Bool.and_eq_true, decide_eq_true_eq] at hc
      obtain ⟨rfl, hc⟩ := hc
      have hc := Nat.blt_eq.mp hc
      simp only [Option.some.injEq] at h; subst h
      simp only [Sg0.wf] at hw
      refine ⟨?_, by simpa [Sg0.wf] using hw, rfl, rfl, by simp [c0n, Sg0.n]; omega⟩
      simp only [Sg0.den, c0den, S0.den, List.append_nil]
      exact (iv_set k l _ x (by omega)).symm
    · cases h
  · rename_i k l m k' l' n
    simp only [cond_eq_ite] at h
    split at h
    · rename_i hc
      simp only [Bool.and_eq_true, decide_eq_true_eq] at hc
      obtain ⟨rfl, hc⟩ := hc
      have hc := Nat.le_of_ble_eq_true hc
      simp only [Option.some.injEq] at h; subst h
      simp only [Sg0.wf] at hw
      have hv' : l'.length = n := hv.1
      refine ⟨?_, by simp [Sg0.wf]; omega, rfl, rfl, by simp [c0n, Sg0.n]; omega⟩
      simp only [Sg0.den, c0den, List.append_nil, blit, iv_length]
      simp [iv, List.map_drop, List.map_take, hv']
    · cases h
  · cases h

def c0drop : List Sg0 → Nat → Option (List Sg0)
  | c, 0 => some c
  | [], _ + 1 => none
  | s :: c, n + 1 => bif Nat.ble s.n (n + 1) && Nat.ble 1 s.n then c0drop c (n + 1 - s.n) else none

theorem c0drop_spec {E : List Ad} {N : Nat} : ∀ {c : List Sg0} {n : Nat} {r : List Sg0}, c0drop c n = some r → c0wf c → c0ok N c = true →
    c0den E r = (c0den E c).drop n ∧ c0wf r ∧ c0ok N r = true ∧ c0n r + n = c0n c
  | c, 0, r, h, hw, hk => by
    have : c = r := by cases c <;> simpa [c0drop] using h
    subst this
    exact ⟨by simp, hw, hk, by simp⟩
  | [], n + 1, r, h, _, _ => by simp [c0drop] at h
  | s :: c, n + 1, r, h, hw, hk => by
    simp only [c0ok, Bool.and_eq_true] at hk
    simp only [c0drop, cond_eq_ite] at h
    split at h
    · rename_i hc
      simp only [Bool.and_eq_true] at hc
      have hc := Nat.le_of_ble_eq_true hc.1
      obtain ⟨g1, g2, g3, g4⟩ := c0drop_spec (E := E) h hw.2 hk.2
      have hl := Sg0.len (E := E) hw.1
      refine ⟨?_, g2, g3, by simp [c0n]; omega⟩
      rw [g1, c0den, List.drop_append, show (s.den E).drop (n + 1) = [] from List.drop_of_length_le (by omega), List.nil_append, hl]
    · cases h

def c0put : List Sg0 → Nat → List Sg0 → Option (List Sg0)
  | [], _, _ => none
  | s :: c, 0, v => bif Nat.ble s.n (c0n v) then (c0drop (s :: c) (c0n v)).map (v ++ ·) else (s.putp 0 v).map (· :: c)
  | s :: c, o + 1, v => bif Nat.ble s.n (o + 1) then (c0put c (o + 1 - s.n) v).map (s :: ·) else (s.putp (o + 1) v).map (· :: c)

theorem blit_left {a b v : List Value} {o : Nat} (h : o + v.length ≤ a.length) : blit (a ++ b) o v = blit a o v ++ b := by
  simp only [blit]
  rw [List.take_append_of_le_length (by omega), List.drop_append_of_le_length (by omega)]
  simp
theorem blit_right {a b v : List Value} {o : Nat} (h : a.length ≤ o) : blit (a ++ b) o v = a ++ blit b (o - a.length) v := by
  simp only [blit]
  rw [List.take_append, List.take_of_length_le h, List.drop_append, List.drop_of_length_le (by omega)]
  simp only [List.nil_append, List.append_assoc]
  congr 3
  congr 1; omega

theorem c0put_spec {E : List Ad} {N : Nat} : ∀ {c : List Sg0} {o : Nat} {v r : List Sg0}, c0put c o v = some r → c0wf c → c0ok N c = true → c0wf v → c0ok N v = true →
    c0den E r = blit (c0den E c) o (c0den E v) ∧ c0wf r ∧ c0ok N r = true ∧ c0n r = c0n c ∧ o + c0n v ≤ c0n c
  | [], o, v, r, h, _, _, _, _ => by simp [c0put] at h
  | s :: c, 0, v, r, h, hw, hk, hv, hvk => by
    have hvl := c0len (E := E) hv
    simp only [c0put, cond_eq_ite] at h
    split at h
    · obtain ⟨r', hr, rfl⟩ := Option.map_eq_some_iff.1 h
      obtain ⟨g1, g2, g3, g4⟩ := c0drop_spec (E := E) hr hw hk
      refine ⟨?_, c0wf_append.2 ⟨hv, g2⟩, c0ok_append.2 ⟨hvk, g3⟩, by rw [c0n_append]; omega, by omega⟩
      rw [c0den_append, g1, blit, hvl]
      simp
    · obtain ⟨s', hs, rfl⟩ := Option.map_eq_some_iff.1 h
      simp only [c0ok, Bool.and_eq_true] at hk ⊢
      obtain ⟨g1, g2, g3, g4, g5⟩ := Sg0.putp_spec (E := E) (N := N) hs hw.1 hv
      refine ⟨?_, ⟨g2, hw.2⟩, ⟨g3, hk.2⟩, by simp [c0n, g4], by simp [c0n]; omega⟩
      rw [c0den, c0den, g1, blit_left (by rw [Sg0.len hw.1, hvl]; omega)]
  | s :: c, o + 1, v, r, h, hw, hk, hv, hvk => by
    have hvl := c0len (E := E) hv
    simp only [c0put, cond_eq_ite] at h
    simp only [c0ok, Bool.and_eq_true] at hk ⊢
    split at h
    · rename_i hc
      have hc := Nat.le_of_ble_eq_true hc
      obtain ⟨r', hr, rfl⟩ := Option.map_eq_some_iff.1 h
      obtain ⟨g1, g2, g3, g4, g5⟩ := c0put_spec (E := E) hr hw.2 hk.2 hv hvk
      refine ⟨?_, ⟨hw.1, g2⟩, by simp [c0ok, hk.1, g3], by simp [c0n, g4], by simp [c0n]; omega⟩
      rw [c0den, c0den, g1, blit_right (by rw [Sg0.len hw.1]; omega), Sg0.len hw.1]
    · obtain ⟨s', hs, rfl⟩ := Option.map_eq_some_iff.1 h
      obtain ⟨g1, g2, g3, g4, g5⟩ := Sg0.putp_spec (E := E) (N := N) hs hw.1 hv
      refine ⟨?_, ⟨g2, hw.2⟩, by simp [c0ok, hk.2, g3], by simp [c0n, g4], by simp [c0n]; omega⟩
      rw [c0den, c0den, g1, blit_left (by rw [Sg0.len hw.1, hvl]; omega)]
end Go.Px
