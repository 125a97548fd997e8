/-
  Walks by computing, their engine and the plain laws under them, in parts. No condition.
-/
import Derived.Test.YtogpbbgcdeiplaaSc3
import Derived.Test.YtogpbbgcdeiplaaProg
section
/-
  The forms of this program's records. No condition.
-/
set_option linter.all false
namespace Go.Px
open Go.RowKit

theorem iv_kd (k : IntKind) : ∀ l : List Int, (iv k l).map kd = List.replicate l.length (some (.int k))
  | [] => rfl
  | x :: l => by
    have := iv_kd k l
    simp only [iv, List.map_cons, List.length_cons, List.replicate_succ] at this ⊢
    rw [this]; rfl
def fmHash : Fm where
  α := List Int
  sg := fun a => [.iz .u8 (a) 32]
  sz := 32
  d := (List.replicate 32 0)
  of := fun
    | [.iz k0 v0 n0] => bif decide (k0 = .u8) && Nat.beq n0 32 then some (v0) else none
    | _ => none
  wf := fun a => (a).length = 32
  hd := by simp
  hsz := fun _ => rfl
  hok := fun _ => rfl
  hwf := fun a => by simp [c0wf, Sg0.wf]
  hmk := fun l a h => by
    split at h
    · simp only [cond_eq_ite] at h
      split at h
      · rename_i hc
        simp only [Bool.and_eq_true, decide_eq_true_eq, Nat.beq_eq] at hc
        simp only [Option.some.injEq] at h
        subst h
        simp_all
      · cases h
    · cases h
  pos := by decide
def fmAccount : Fm where
  α := Int × Int × List Int
  sg := fun a => [.cl (.xv (.int .u64 (a.1))), .cl (.xv (.int .u64 (a.2.1))), .iz .u8 (a.2.2) 32]
  sz := 34
  d := (0, 0, List.replicate 32 0)
  of := fun
    | [.cl (.xv (.int k0 v0)), .cl (.xv (.int k1 v1)), .iz k2 v2 n2] => bif decide (k0 = .u64) && decide (k1 = .u64) && decide (k2 = .u8) && Nat.beq n2 32 then some (v0, v1, v2) else none
    | _ => none
  wf := fun a => (a.2.2).length = 32
  hd := by simp
  hsz := fun _ => rfl
  hok := fun _ => rfl
  hwf := fun a => by simp [c0wf, Sg0.wf]
  hmk := fun l a h => by
    split at h
    · simp only [cond_eq_ite] at h
      split at h
      · rename_i hc
        simp only [Bool.and_eq_true, decide_eq_true_eq, Nat.beq_eq] at hc
        simp only [Option.some.injEq] at h
        subst h
        simp_all
      · cases h
    · cases h
  pos := by decide
  kds := some ([.int .u64] ++ [.int .u64] ++ List.replicate 32 (.int .u8))
  hkd := fun ks h a hw => by
    cases h
    simp only [c0den, Sg0.den, S0.den, List.map_append, List.map_cons, List.map_nil, List.append_nil, List.map_replicate]
    simp_all [iv_kd, kd]
  dec := some inferInstance
  hdec := fun _ a b hw hw' h => by
    simp only [c0den, Sg0.den, S0.den, List.cons_append, List.nil_append, List.append_nil, List.cons.injEq, Value.int.injEq, Value.bool.injEq, true_and, and_true, iv_inj] at h
    simp only [Prod.ext_iff]
    simp_all
def fmOut : Fm where
  α := Int × Int
  sg := fun a => [.cl (.xv (.int .u64 (a.1))), .cl (.xv (.int .u64 (a.2)))]
  sz := 2
  d := (0, 0)
  of := fun
    | [.cl (.xv (.int k0 v0)), .cl (.xv (.int k1 v1))] => bif decide (k0 = .u64) && decide (k1 = .u64) then some (v0, v1) else none
    | _ => none
  wf := fun a => True
  hd := by simp
  hsz := fun _ => rfl
  hok := fun _ => rfl
  hwf := fun a => by simp [c0wf, Sg0.wf]
  hmk := fun l a h => by
    split at h
    · simp only [cond_eq_ite] at h
      split at h
      · rename_i hc
        simp only [Bool.and_eq_true, decide_eq_true_eq, Nat.beq_eq] at hc
        simp only [Option.some.injEq] at h
        subst h
        simp_all
      · cases h
    · cases h
  pos := by decide
  kds := some [.int .u64, .int .u64]
  hkd := fun ks h a _ => by cases h; rfl
  dec := some inferInstance
  hdec := fun _ a b _ _ h => by
    simp only [c0den, Sg0.den, S0.den, List.cons_append, List.nil_append, List.cons.injEq, Value.int.injEq, Value.bool.injEq, true_and, and_true] at h
    simp only [Prod.ext_iff]
    simp_all
def fmCode : Fm where
  α := Int × Int × Int × Int × Int
  sg := fun a => [.cl (.xv (.int .u8 (a.1))), .cl (.xv (.int .u8 (a.2.1))), .cl (.xv (.int .u8 (a.2.2.1))), .cl (.xv (.int .u8 (a.2.2.2.1))), .cl (.xv (.int .u32 (a.2.2.2.2)))]
  sz := 5
  d := (0, 0, 0, 0, 0)
  of := fun
    | [.cl (.xv (.int k0 v0)), .cl (.xv (.int k1 v1)), .cl (.xv (.int k2 v2)), .cl (.xv (.int k3 v3)), .cl (.xv (.int k4 v4))] => bif decide (k0 = .u8) && decide (k1 = .u8) && decide (k2 = .u8) && decide (k3 = .u8) && decide (k4 = .u32) then some (v0, v1, v2, v3, v4) else none
    | _ => none
  wf := fun a => True
  hd := by simp
  hsz := fun _ => rfl
  hok := fun _ => rfl
  hwf := fun a => by simp [c0wf, Sg0.wf]
  hmk := fun l a h => by
    split at h
    · simp only [cond_eq_ite] at h
      split at h
      · rename_i hc
        simp only [Bool.and_eq_true, decide_eq_true_eq, Nat.beq_eq] at hc
        simp only [Option.some.injEq] at h
        subst h
        simp_all
      · cases h
    · cases h
  pos := by decide
  kds := some [.int .u8, .int .u8, .int .u8, .int .u8, .int .u32]
  hkd := fun ks h a _ => by cases h; rfl
  dec := some inferInstance
  hdec := fun _ a b _ _ h => by
    simp only [c0den, Sg0.den, S0.den, List.cons_append, List.nil_append, List.cons.injEq, Value.int.injEq, Value.bool.injEq, true_and, and_true] at h
    simp only [Prod.ext_iff]
    simp_all
def fmBytes : Fm where
  α := (Option Addr × List Int × Nat)
  sg := fun a => [.cl (.xv (.slice a.1 a.2.1.length a.2.2))]
  sz := 1
  d := ((none, [], 0))
  of := fun _ => none
  wf := fun a => True
  hd := by simp
  hsz := fun _ => rfl
  hok := fun _ => rfl
  hwf := fun a => by simp [c0wf, Sg0.wf]
  hmk := fun l a h => by cases h
  pos := by decide
  deep := true
  inn := fun a o => bif Nat.beq o 0 then some (a.1, .u8, a.2.1) else none
  hdp := by intro h; cases h
  hin := by
    intro a o A k l h
    simp only [cond_eq_ite] at h
    split at h
    · rename_i ho
      have ho := Nat.eq_of_beq_eq_true ho
      subst ho
      simp only [Option.some.injEq, Prod.mk.injEq] at h
      obtain ⟨rfl, rfl, rfl⟩ := h
      exact ⟨_, rfl⟩
    · cases h
  ofD := fun
    | [.d A0 k0 v0 n0] => bif decide (k0 = .u8) then some ((A0, v0, n0)) else none
    | _ => none
  hofD := fun ds a h => by
    split at h
    · simp only [cond_eq_ite] at h
      split at h
      · rename_i hc
        simp only [Bool.and_eq_true, decide_eq_true_eq, Nat.beq_eq] at hc
        simp only [Option.some.injEq] at h
        subst h
        refine ⟨?_, ?_, ?_⟩
        · simp_all [dcden, DC.den, c0den, Sg0.den, S0.den]
        · simp_all [dcwf, Sg0.wf]
        · intro o A k l hi
          simp only [cond_eq_ite] at hi
          split at hi
          · simp only [Option.some.injEq, Prod.mk.injEq] at hi
            obtain ⟨rfl, rfl, rfl⟩ := hi
            simp_all
          · cases hi
      · cases h
    · cases h
def fmHashed : Fm where
  α := (Option Addr × List Int × Nat) × List Int
  sg := fun a => [.cl (.xv (.slice a.1.1 a.1.2.1.length a.1.2.2)), .iz .u8 (a.2) 32]
  sz := 33
  d := ((none, [], 0), List.replicate 32 0)
  of := fun _ => none
  wf := fun a => (a.2).length = 32
  hd := by simp
  hsz := fun _ => rfl
  hok := fun _ => rfl
  hwf := fun a => by simp [c0wf, Sg0.wf]
  hmk := fun l a h => by cases h
  pos := by decide
  deep := true
  inn := fun a o => bif Nat.beq o 0 then some (a.1.1, .u8, a.1.2.1) else none
  hdp := by intro h; cases h
  hin := by
    intro a o A k l h
    simp only [cond_eq_ite] at h
    split at h
    · rename_i ho
      have ho := Nat.eq_of_beq_eq_true ho
      subst ho
      simp only [Option.some.injEq, Prod.mk.injEq] at h
      obtain ⟨rfl, rfl, rfl⟩ := h
      exact ⟨_, rfl⟩
    · cases h
  ofD := fun
    | [.d A0 k0 v0 n0, .c (.iz k1 v1 n1)] => bif decide (k0 = .u8) && decide (k1 = .u8) && Nat.beq n1 32 then some ((A0, v0, n0), v1) else none
    | _ => none
  hofD := fun ds a h => by
    split at h
    · simp only [cond_eq_ite] at h
      split at h
      · rename_i hc
        simp only [Bool.and_eq_true, decide_eq_true_eq, Nat.beq_eq] at hc
        simp only [Option.some.injEq] at h
        subst h
        refine ⟨?_, ?_, ?_⟩
        · simp_all [dcden, DC.den, c0den, Sg0.den, S0.den]
        · simp_all [dcwf, Sg0.wf]
        · intro o A k l hi
          simp only [cond_eq_ite] at hi
          split at hi
          · simp only [Option.some.injEq, Prod.mk.injEq] at hi
            obtain ⟨rfl, rfl, rfl⟩ := hi
            simp_all
          · cases hi
      · cases h
    · cases h
def fmDelayed : Fm where
  α := Int × (Option Addr × List Int × Nat)
  sg := fun a => [.cl (.xv (.int .i64 (a.1))), .cl (.xv (.slice a.2.1 a.2.2.1.length a.2.2.2))]
  sz := 2
  d := (0, (none, [], 0))
  of := fun _ => none
  wf := fun a => True
  hd := by simp
  hsz := fun _ => rfl
  hok := fun _ => rfl
  hwf := fun a => by simp [c0wf, Sg0.wf]
  hmk := fun l a h => by cases h
  pos := by decide
  deep := true
  inn := fun a o => bif Nat.beq o 1 then some (a.2.1, .u8, a.2.2.1) else none
  hdp := by intro h; cases h
  hin := by
    intro a o A k l h
    simp only [cond_eq_ite] at h
    split at h
    · rename_i ho
      have ho := Nat.eq_of_beq_eq_true ho
      subst ho
      simp only [Option.some.injEq, Prod.mk.injEq] at h
      obtain ⟨rfl, rfl, rfl⟩ := h
      exact ⟨_, rfl⟩
    · cases h
  ofD := fun
    | [.c (.cl (.xv (.int k0 v0))), .d A1 k1 v1 n1] => bif decide (k0 = .i64) && decide (k1 = .u8) then some (v0, (A1, v1, n1)) else none
    | _ => none
  hofD := fun ds a h => by
    split at h
    · simp only [cond_eq_ite] at h
      split at h
      · rename_i hc
        simp only [Bool.and_eq_true, decide_eq_true_eq, Nat.beq_eq] at hc
        simp only [Option.some.injEq] at h
        subst h
        refine ⟨?_, ?_, ?_⟩
        · simp_all [dcden, DC.den, c0den, Sg0.den, S0.den]
        · simp_all [dcwf, Sg0.wf]
        · intro o A k l hi
          simp only [cond_eq_ite] at hi
          split at hi
          · simp only [Option.some.injEq, Prod.mk.injEq] at hi
            obtain ⟨rfl, rfl, rfl⟩ := hi
            simp_all
          · cases hi
      · cases h
    · cases h
def fmTruth : Fm where
  α := Bool
  sg := fun a => [.cl (.xv (.bool (a)))]
  sz := 1
  d := (false)
  of := fun
    | [.cl (.xv (.bool v0))] => bif Nat.beq 0 0 then some (v0) else none
    | _ => none
  wf := fun a => True
  hd := by simp
  hsz := fun _ => rfl
  hok := fun _ => rfl
  hwf := fun a => by simp [c0wf, Sg0.wf]
  hmk := fun l a h => by
    split at h
    · simp only [cond_eq_ite] at h
      split at h
      · rename_i hc
        simp only [Bool.and_eq_true, decide_eq_true_eq, Nat.beq_eq] at hc
        simp only [Option.some.injEq] at h
        subst h
        simp_all
      · cases h
    · cases h
  pos := by decide
  kds := some [.bool]
  hkd := fun ks h a _ => by cases h; rfl
  dec := some inferInstance
  hdec := fun _ a b _ _ h => by
    simp only [c0den, Sg0.den, S0.den, List.cons_append, List.nil_append, List.cons.injEq, Value.int.injEq, Value.bool.injEq, true_and, and_true] at h
    exact h
def FMp : Nat → Fm
  | 0 => fmHash
  | 1 => fmAccount
  | 2 => fmOut
  | 3 => fmCode
  | 4 => fmBytes
  | 5 => fmHashed
  | 6 => fmDelayed
  | _ => fmTruth
end Go.Px
end
section
/-
  This program, for the walk by computing. No condition.
-/
set_option linter.all false
namespace Go.Pw
open Go Go.Px Go.RowKit
noncomputable def Xp : Cx := ⟨Go.Proofs.Try.prog, [(40, 0), (55, 1), (42, 2), (83, 4), (87, 5), (153, 6), (4, 7)], [.i64]⟩
end Go.Pw
end
section
/-
  What numbers and lists come to: words, bytes, SHA-256. No condition.
-/
set_option linter.all false
set_option maxRecDepth 100000
namespace Go.Pw
open Go Go.Px Go.RowKit

/-- So many rounds. -/
def itN {α : Type} (f : Nat → α → α) : Nat → α → α
  | 0, q => q
  | n + 1, q => f n (itN f n q)
def frS (w : List Int) (j : Nat) (q : List Int) : List Int := q.set j (IntKind.u8.wrap (shrV .u64 (w.getD (j / 8) 0) (56 - 8 * ((j : Int) % 8))))
def frF (m n : Nat) (w : List Int) : List Int := itN (frS w) n (List.replicate m 0)
theorem frF_length (m n : Nat) (w : List Int) : (frF m n w).length = m := by
  unfold frF
  induction n with
  | zero => simp [itN]
  | succ n ih => simp only [itN, frS, List.length_set]; exact ih

def e8S (x : Int) (j : Nat) (q : List Int) : List Int := q ++ [IntKind.u8.wrap (shrV .u64 x (8 * (7 - (j : Int))))]
def ei8 (x : Int) : List Int := itN (e8S x) 8 []
theorem ei8_length (x : Int) : (ei8 x).length = 8 := by simp [ei8, itN, e8S]
def catS (w : List Int) (j : Nat) (q : List Int) : List Int := q ++ ei8 (w.getD j 0)
def wrR (w : List Int) (n : Nat) : List Int := itN (catS w) n []
theorem wrR_length (w : List Int) (n : Nat) : (wrR w n).length = 8 * n := by
  unfold wrR
  induction n with
  | zero => simp [itN]
  | succ n ih => simp only [itN, catS, List.length_append, ei8_length, ih]; omega
theorem wrap8 (x : Int) : IntKind.u8.wrap x = x % 256 := by
  simp [IntKind.wrap, IntKind.bits, IntKind.signed]
theorem wrap64 (x : Int) : IntKind.u64.wrap x = x % 18446744073709551616 := by
  simp [IntKind.wrap, IntKind.bits, IntKind.signed]
theorem wrap32 (x : Int) : IntKind.u32.wrap x = x % 4294967296 := by
  simp [IntKind.wrap, IntKind.bits, IntKind.signed]
/-- A byte of a word, the j-th from above. -/
def byt (x : Int) (j : Nat) : Int := IntKind.u8.wrap (shrV .u64 x (56 - 8 * (j : Int)))
theorem ei8_eq (x : Int) : ei8 x = [byt x 0, byt x 1, byt x 2, byt x 3, byt x 4, byt x 5, byt x 6, byt x 7] := by
  simp [ei8, itN, e8S, byt]
theorem frF_map (w : List Int) (n : Nat) : ∀ k, k ≤ n → itN (frS w) k (List.replicate n 0) = (List.range k).map (fun j => byt (w.getD (j / 8) 0) (j % 8)) ++ List.replicate (n - k) 0
  | 0, _ => by simp [itN]
  | k + 1, h => by
    rw [itN, frF_map w n k (by omega), frS, List.range_succ, List.map_append]
    have hr : List.replicate (n - k) (0 : Int) = 0 :: List.replicate (n - (k + 1)) 0 := by
      rw [show n - k = (n - (k + 1)) + 1 by omega, List.replicate_succ]
    rw [hr, List.set_append_right _ _ (by simp)]
    simp [byt]
def bstep (a c : Int) : Int := bor .u64 (shlV .u64 a 8) c
def be (l : List Int) : Int := l.foldl bstep 0
theorem list8 {l : List Int} (h : l.length = 8) : ∃ a b c d e f g i, l = [a, b, c, d, e, f, g, i] := by
  match l, h with
  | [a, b, c, d, e, f, g, i], _ => exact ⟨a, b, c, d, e, f, g, i, rfl⟩
theorem mem_of_get {l : List Int} {p : Int → Prop} (h : ∀ j, p (l.getD j 0)) : ∀ x ∈ l, p x := by
  intro x hx
  obtain ⟨i, hi, rfl⟩ := List.mem_iff_getElem.1 hx
  have := h i
  simpa [List.getD_eq_getElem?_getD, hi] using this
theorem get_of_mem {l : List Int} {p : Int → Prop} (h0 : p 0) (h : ∀ x ∈ l, p x) : ∀ j, p (l.getD j 0) := by
  intro j
  rw [List.getD_eq_getElem?_getD]
  cases hj : l[j]? with
  | none => exact h0
  | some x => exact h x (List.mem_of_getElem? hj)

theorem byt_range (x : Int) (j : Nat) : 0 ≤ byt x j ∧ byt x j < 256 := by
  unfold byt; rw [wrap8]; omega
theorem frF_range {n : Nat} (w : List Int) : ∀ x ∈ frF n n w, 0 ≤ x ∧ x < 256 := by
  intro x hx
  unfold frF at hx
  rw [frF_map w n n (Nat.le_refl _)] at hx
  simp only [Nat.sub_self, List.replicate_zero, List.append_nil, List.mem_map] at hx
  obtain ⟨j, -, rfl⟩ := hx
  exact byt_range _ _
theorem ei8_range (x : Int) : ∀ y ∈ ei8 x, 0 ≤ y ∧ y < 256 := by
  intro y hy
  rw [ei8_eq] at hy
  simp only [List.mem_cons, List.mem_nil_iff, or_false] at hy
  rcases hy with rfl | rfl | rfl | rfl | rfl | rfl | rfl | rfl <;> exact byt_range _ _
structure Ms where
  k : Int
  f : Int
  t : Int
  a : Int
  n : Int
  x : List Int
  y : List Int


def K256 : List Int := [1116352408, 1899447441, 3049323471, 3921009573, 961987163, 1508970993, 2453635748, 2870763221, 3624381080, 310598401, 607225278, 1426881987, 1925078388, 2162078206, 2614888103, 3248222580, 3835390401, 4022224774, 264347078, 604807628, 770255983, 1249150122, 1555081692, 1996064986, 2554220882, 2821834349, 2952996808, 3210313671, 3336571891, 3584528711, 113926993, 338241895, 666307205, 773529912, 1294757372, 1396182291, 1695183700, 1986661051, 2177026350, 2456956037, 2730485921, 2820302411, 3259730800, 3345764771, 3516065817, 3600352804, 4094571909, 275423344, 430227734, 506948616, 659060556, 883997877, 958139571, 1322822218, 1537002063, 1747873779, 1955562222, 2024104815, 2227730452, 2361852424, 2428436474, 2756734187, 3204031479, 3329325298]
def H256 : List Int := [1779033703, 3144134277, 1013904242, 2773480762, 1359893119, 2600822924, 528734635, 1541459225]
theorem bnd_nn (a b : Int) : 0 ≤ bnd .u64 a b := by
  show 0 ≤ IntKind.u64.wrap _
  rw [wrap64]; omega
theorem wrap_nn (a : Int) : 0 ≤ IntKind.u64.wrap a := by rw [wrap64]; omega
def rotl (x k : Int) : Int := bor .u32 (shlV .u32 x (bnd .u64 (IntKind.u64.wrap k) 31)) (shrV .u32 x (IntKind.u64.wrap (32 - bnd .u64 (IntKind.u64.wrap k) 31)))
def rotr (x n : Int) : Int := bor .u32 (shrV .u32 x n) (shlV .u32 x (IntKind.u64.wrap (32 - n)))
def tuS (x : Int) (l : List Int) (i : Nat) (y : Int) : Int := bxr .u32 y (rotl x (0 - l.getD i 0))
def turnS (x : Int) (l : List Int) : Int := itN (tuS x l) l.length 0
def wd4S (b : List Int) (j : Nat) (q : List Int) : List Int := q.set (j / 4) (bor .u32 (shlV .u32 (q.getD (j / 4) 0) 8) (IntKind.u32.wrap (b.getD j 0)))
def spI (b : List Int) : List Int := itN (wd4S b) 64 (List.replicate 64 0)
def spV (n : Nat) (q : List Int) : Int :=
  IntKind.u32.wrap (IntKind.u32.wrap (IntKind.u32.wrap (bxr .u32 (turnS (q.getD (n - 2) 0) [17, 19]) (shrV .u32 (q.getD (n - 2) 0) 10) + q.getD (n - 7) 0) + bxr .u32 (turnS (q.getD (n - 15) 0) [7, 18]) (shrV .u32 (q.getD (n - 15) 0) 3)) + q.getD (n - 16) 0)
def spS (t : Nat) (q : List Int) : List Int := q.set (t + 16) (spV (t + 16) q)
def spF (b : List Int) : List Int := itN spS 48 (spI b)
def rT1 (w : List Int) (t : Nat) (s : List Int) : Int :=
  IntKind.u32.wrap (IntKind.u32.wrap (IntKind.u32.wrap (s.getD 7 0 + turnS (s.getD 4 0) [6, 11, 25]) + bxr .u32 (bnd .u32 (s.getD 4 0) (s.getD 5 0)) (bnd .u32 (bxr .u32 4294967295 (s.getD 4 0)) (s.getD 6 0))) + IntKind.u32.wrap (K256.getD t 0 + w.getD t 0))
def rT2 (s : List Int) : Int :=
  IntKind.u32.wrap (turnS (s.getD 0 0) [2, 13, 22] + bxr .u32 (bxr .u32 (bnd .u32 (s.getD 0 0) (s.getD 1 0)) (bnd .u32 (s.getD 0 0) (s.getD 2 0))) (bnd .u32 (s.getD 1 0) (s.getD 2 0)))
def rnS (w : List Int) (t : Nat) (s : List Int) : List Int :=
  [IntKind.u32.wrap (rT1 w t s + rT2 s), s.getD 0 0, s.getD 1 0, s.getD 2 0, IntKind.u32.wrap (s.getD 3 0 + rT1 w t s), s.getD 4 0, s.getD 5 0, s.getD 6 0]
def adS (s : List Int) (i : Nat) (q : List Int) : List Int := q.set i (IntKind.u32.wrap (q.getD i 0 + s.getD i 0))
def cmpF (h b : List Int) : List Int := itN (adS (itN (rnS (spF b)) 64 h)) 8 h
theorem itN_length {f : Nat → List Int → List Int} {m : Nat} (hf : ∀ j q, q.length = m → (f j q).length = m) : ∀ (n : Nat) (q : List Int), q.length = m → (itN f n q).length = m
  | 0, q, h => h
  | n + 1, q, h => hf _ _ (itN_length hf n q h)
theorem spI_length (b : List Int) : (spI b).length = 64 := itN_length (fun j q h => by simp [wd4S, h]) _ _ (by simp)
theorem spF_length (b : List Int) : (spF b).length = 64 := itN_length (fun j q h => by simp [spS, h]) _ _ (spI_length b)
theorem cmpF_length {h b : List Int} (hh : h.length = 8) : (cmpF h b).length = 8 := itN_length (fun j q h => by simp [adS, h]) _ _ hh
theorem getD_set_self {l : List Int} {i : Nat} (v : Int) (h : i < l.length) : (l.set i v).getD i 0 = v := by
  simp [List.getD_eq_getElem?_getD, h]
theorem getD_set_other {l : List Int} {i j : Nat} (v : Int) (h : i ≠ j) : (l.set i v).getD j 0 = l.getD j 0 := by
  simp [List.getD_eq_getElem?_getD, List.getElem?_set, h]
/-- Four stores in one place, each out of what stands there. -/
theorem sp_four {q : List Int} {t : Int} (hq : q.length = 64) (h0 : 16 ≤ t) (h1 : t < 64) (A B : Int) :
    (((q.set t.toNat A).set t.toNat (IntKind.u32.wrap ((q.set t.toNat A).getD t.toNat 0 + (q.set t.toNat A).getD (t - 7).toNat 0))).set t.toNat (IntKind.u32.wrap (((q.set t.toNat A).set t.toNat (IntKind.u32.wrap ((q.set t.toNat A).getD t.toNat 0 + (q.set t.toNat A).getD (t - 7).toNat 0))).getD t.toNat 0 + B))).set t.toNat
      (IntKind.u32.wrap ((((q.set t.toNat A).set t.toNat (IntKind.u32.wrap ((q.set t.toNat A).getD t.toNat 0 + (q.set t.toNat A).getD (t - 7).toNat 0))).set t.toNat (IntKind.u32.wrap (((q.set t.toNat A).set t.toNat (IntKind.u32.wrap ((q.set t.toNat A).getD t.toNat 0 + (q.set t.toNat A).getD (t - 7).toNat 0))).getD t.toNat 0 + B))).getD t.toNat 0 +
        (((q.set t.toNat A).set t.toNat (IntKind.u32.wrap ((q.set t.toNat A).getD t.toNat 0 + (q.set t.toNat A).getD (t - 7).toNat 0))).set t.toNat (IntKind.u32.wrap (((q.set t.toNat A).set t.toNat (IntKind.u32.wrap ((q.set t.toNat A).getD t.toNat 0 + (q.set t.toNat A).getD (t - 7).toNat 0))).getD t.toNat 0 + B))).getD (t - 16).toNat 0))
    = q.set t.toNat (IntKind.u32.wrap (IntKind.u32.wrap (IntKind.u32.wrap (A + q.getD (t.toNat - 7) 0) + B) + q.getD (t.toNat - 16) 0)) := by
  have e7 : (t - 7).toNat = t.toNat - 7 := by omega
  have e16 : (t - 16).toNat = t.toNat - 16 := by omega
  have hl : t.toNat < q.length := by omega
  simp only [List.set_set, e7, e16, getD_set_self _ hl, getD_set_other _ (show t.toNat ≠ t.toNat - 7 by omega), getD_set_other _ (show t.toNat ≠ t.toNat - 16 by omega)]

/-- What a round of the program makes of the eight words. -/
theorem rn_made {s : List Int} (hs : s.length = 8) (t1 t2 : Int) :
    ((s.take 1 ++ ((s.drop 0).take 7 ++ s.drop 8)).set 4 (IntKind.u32.wrap ((s.take 1 ++ ((s.drop 0).take 7 ++ s.drop 8)).getD 4 0 + t1))).set 0 (IntKind.u32.wrap (t1 + t2)) =
    [IntKind.u32.wrap (t1 + t2), s.getD 0 0, s.getD 1 0, s.getD 2 0, IntKind.u32.wrap (s.getD 3 0 + t1), s.getD 4 0, s.getD 5 0, s.getD 6 0] := by
  obtain ⟨a, b, c, d, e, f, g, i, rfl⟩ := list8 hs
  rfl

def padZ (n : Nat) : Nat := (119 - n % 64) % 64
def padF (b : List Int) : List Int := b ++ 128 :: List.replicate (padZ b.length) 0 ++ ei8 ((b.length : Int) * 8)
theorem padF_length (b : List Int) : (padF b).length = b.length + 9 + padZ b.length := by
  simp [padF, ei8_length]; omega
theorem padF_mod (b : List Int) : (padF b).length % 64 = 0 := by
  rw [padF_length]; unfold padZ; omega
theorem padF_le (b : List Int) : (padF b).length ≤ b.length + 72 := by
  rw [padF_length]; unfold padZ; omega

def byt32 (x : Int) (j : Nat) : Int := IntKind.u8.wrap (shrV .u32 x (24 - 8 * (j : Int)))
def ouS (h : List Int) (p : Nat) (q : List Int) : List Int := q.set p (byt32 (h.getD (p / 4) 0) (p % 4))
def hnS (p : List Int) (j : Nat) (h : List Int) : List Int := cmpF h ((p.drop (64 * j)).take 64)
def hN (b : List Int) : List Int := itN (hnS (padF b)) ((padF b).length / 64) H256
def shaF (b : List Int) : List Int := itN (ouS (hN b)) 32 (List.replicate 32 0)
theorem shaF_length (b : List Int) : (shaF b).length = 32 := itN_length (fun j q h => by simp [ouS, h]) _ _ (by simp)

theorem bor_r (a b : Int) : 0 ≤ bor .u32 a b ∧ bor .u32 a b < 4294967296 := by
  show 0 ≤ IntKind.u32.wrap _ ∧ IntKind.u32.wrap _ < _
  rw [wrap32]; omega
theorem bor_comm (a b : Int) : bor .u32 a b = bor .u32 b a := by
  show IntKind.u32.wrap _ = IntKind.u32.wrap _
  rw [BitVec.or_comm]
theorem bxr_zero {a : Int} (h : 0 ≤ a ∧ a < 4294967296) : bxr .u32 0 a = a := by
  have hu : bxr .u32 0 a = IntKind.u32.wrap ((BitVec.ofInt 32 0 ^^^ BitVec.ofInt 32 a).toNat : Int) := rfl
  rw [hu, wrap32, show BitVec.ofInt 32 0 = 0#32 from rfl, BitVec.zero_xor, BitVec.toNat_ofInt]
  omega
theorem rot_eq (x : Int) {n k : Int} (h1 : bnd .u64 (IntKind.u64.wrap (0 - n)) 31 = k) (h2 : IntKind.u64.wrap (32 - k) = n) (h3 : IntKind.u64.wrap (32 - n) = k) : rotl x (0 - n) = rotr x n := by
  unfold rotl rotr
  rw [h1, h2, h3, bor_comm]
theorem rotr_r (x n : Int) : 0 ≤ rotr x n ∧ rotr x n < 4294967296 := bor_r _ _
theorem tu_two (x : Int) {a b : Int} (ha : rotl x (0 - a) = rotr x a) (hb : rotl x (0 - b) = rotr x b) : turnS x [a, b] = bxr .u32 (rotr x a) (rotr x b) := by
  have : turnS x [a, b] = bxr .u32 (bxr .u32 0 (rotl x (0 - a))) (rotl x (0 - b)) := rfl
  rw [this, ha, hb, bxr_zero (rotr_r _ _)]
theorem tu_three (x : Int) {a b c : Int} (ha : rotl x (0 - a) = rotr x a) (hb : rotl x (0 - b) = rotr x b) (hc : rotl x (0 - c) = rotr x c) : turnS x [a, b, c] = bxr .u32 (bxr .u32 (rotr x a) (rotr x b)) (rotr x c) := by
  have : turnS x [a, b, c] = bxr .u32 (bxr .u32 (bxr .u32 0 (rotl x (0 - a))) (rotl x (0 - b))) (rotl x (0 - c)) := rfl
  rw [this, ha, hb, hc, bxr_zero (rotr_r _ _)]
theorem tu17 (x : Int) : turnS x [17, 19] = bxr .u32 (rotr x 17) (rotr x 19) := tu_two x (rot_eq x (k := 15) (by kernel_rfl) (by kernel_rfl) (by kernel_rfl)) (rot_eq x (k := 13) (by kernel_rfl) (by kernel_rfl) (by kernel_rfl))
theorem tu7 (x : Int) : turnS x [7, 18] = bxr .u32 (rotr x 7) (rotr x 18) := tu_two x (rot_eq x (k := 25) (by kernel_rfl) (by kernel_rfl) (by kernel_rfl)) (rot_eq x (k := 14) (by kernel_rfl) (by kernel_rfl) (by kernel_rfl))
theorem tu6 (x : Int) : turnS x [6, 11, 25] = bxr .u32 (bxr .u32 (rotr x 6) (rotr x 11)) (rotr x 25) := tu_three x (rot_eq x (k := 26) (by kernel_rfl) (by kernel_rfl) (by kernel_rfl)) (rot_eq x (k := 21) (by kernel_rfl) (by kernel_rfl) (by kernel_rfl)) (rot_eq x (k := 7) (by kernel_rfl) (by kernel_rfl) (by kernel_rfl))
theorem tu2 (x : Int) : turnS x [2, 13, 22] = bxr .u32 (bxr .u32 (rotr x 2) (rotr x 13)) (rotr x 22) := tu_three x (rot_eq x (k := 30) (by kernel_rfl) (by kernel_rfl) (by kernel_rfl)) (rot_eq x (k := 19) (by kernel_rfl) (by kernel_rfl) (by kernel_rfl)) (rot_eq x (k := 10) (by kernel_rfl) (by kernel_rfl) (by kernel_rfl))
theorem wr3 (a b c : Int) : IntKind.u32.wrap (IntKind.u32.wrap (a + b) + c) = IntKind.u32.wrap (a + IntKind.u32.wrap (b + c)) := by
  simp only [wrap32]; omega
def wbV (b : List Int) (t : Nat) : Int := bor .u32 (bor .u32 (bor .u32 (shlV .u32 (IntKind.u32.wrap (b.getD (4 * t) 0)) 24) (shlV .u32 (IntKind.u32.wrap (b.getD (4 * t + 1) 0)) 16)) (shlV .u32 (IntKind.u32.wrap (b.getD (4 * t + 2) 0)) 8)) (IntKind.u32.wrap (b.getD (4 * t + 3) 0))
def wbS (b : List Int) (t : Nat) (q : List Int) : List Int := q.set t (wbV b t)
theorem bor_add (k : Nat) {a b : Int} (h0 : 0 ≤ a) (h1 : a < 4294967296) (h2 : a % (2 ^ k : Nat) = 0) (h3 : 0 ≤ b) (h4 : b < (2 ^ k : Nat)) (h5 : a + b < 4294967296) : bor .u32 a b = a + b := by
  have hu : bor .u32 a b = IntKind.u32.wrap ((BitVec.ofInt 32 a ||| BitVec.ofInt 32 b).toNat : Int) := rfl
  rw [hu, wrap32, BitVec.toNat_or, BitVec.toNat_ofInt, BitVec.toNat_ofInt]
  have e1 : (a % ((2 ^ 32 : Nat) : Int)).toNat = a.toNat := by congr 1; omega
  have e2 : (b % ((2 ^ 32 : Nat) : Int)).toNat = b.toNat := by congr 1; omega
  rw [e1, e2]
  have hk : (0 : Int) < (2 ^ k : Nat) := by exact_mod_cast Nat.two_pow_pos k
  have e3 : a.toNat = 2 ^ k * (a.toNat / 2 ^ k) := by
    have : a.toNat % 2 ^ k = 0 := by
      have h := h2
      rw [← Int.toNat_of_nonneg h0] at h
      exact_mod_cast h
    have := Nat.div_add_mod a.toNat (2 ^ k)
    omega
  have e4 := Nat.two_pow_add_eq_or_of_lt (i := k) (b := b.toNat) (by omega) (a.toNat / 2 ^ k)
  rw [e3, ← e4, ← e3]
  omega
theorem shl32 (x : Int) (n : Nat) (hn : n < 32) : shlV .u32 x (n : Int) = x * (2 ^ n : Nat) % 4294967296 := by
  unfold shlV
  rw [wrap32]
  have : min (n : Int).toNat (IntKind.bits .u32) = n := by simp [IntKind.bits]; omega
  rw [this]
  simp
theorem four_bytes {a b c d : Int} (ha : 0 ≤ a ∧ a < 256) (hb : 0 ≤ b ∧ b < 256) (hc : 0 ≤ c ∧ c < 256) (hd : 0 ≤ d ∧ d < 256) :
    bor .u32 (shlV .u32 (bor .u32 (shlV .u32 (bor .u32 (shlV .u32 (bor .u32 (shlV .u32 0 8) (IntKind.u32.wrap a)) 8) (IntKind.u32.wrap b)) 8) (IntKind.u32.wrap c)) 8) (IntKind.u32.wrap d) =
    bor .u32 (bor .u32 (bor .u32 (shlV .u32 (IntKind.u32.wrap a) 24) (shlV .u32 (IntKind.u32.wrap b) 16)) (shlV .u32 (IntKind.u32.wrap c) 8)) (IntKind.u32.wrap d) := by
  have w : ∀ x : Int, 0 ≤ x ∧ x < 256 → IntKind.u32.wrap x = x := fun x h => by rw [wrap32]; omega
  have s8 : ∀ x : Int, shlV .u32 x 8 = x * 256 % 4294967296 := fun x => by have := shl32 x 8 (by decide); simpa using this
  have s16 : ∀ x : Int, shlV .u32 x 16 = x * 65536 % 4294967296 := fun x => by have := shl32 x 16 (by decide); simpa using this
  have s24 : ∀ x : Int, shlV .u32 x 24 = x * 16777216 % 4294967296 := fun x => by have := shl32 x 24 (by decide); simpa using this
  simp only [w a ha, w b hb, w c hc, w d hd, s8, s16, s24]
  have p8 : ((2 ^ 8 : Nat) : Int) = 256 := rfl
  have p16 : ((2 ^ 16 : Nat) : Int) = 65536 := rfl
  have p24 : ((2 ^ 24 : Nat) : Int) = 16777216 := rfl
  rw [bor_add 8 (a := 0 * 256 % 4294967296) (b := a) (by omega) (by omega) (by omega) (by omega) (by omega) (by omega)]
  rw [bor_add 8 (b := b) (by omega) (by omega) (by omega) (by omega) (by omega) (by omega)]
  rw [bor_add 8 (b := c) (by omega) (by omega) (by omega) (by omega) (by omega) (by omega)]
  rw [bor_add 8 (b := d) (by omega) (by omega) (by omega) (by omega) (by omega) (by omega)]
  rw [bor_add 24 (a := a * 16777216 % 4294967296) (b := b * 65536 % 4294967296) (by omega) (by omega) (by omega) (by omega) (by omega) (by omega)]
  rw [bor_add 16 (b := c * 256 % 4294967296) (by omega) (by omega) (by omega) (by omega) (by omega) (by omega)]
  rw [bor_add 8 (b := d) (by omega) (by omega) (by omega) (by omega) (by omega) (by omega)]
  omega
theorem itN_other {f : Nat → List Int → List Int} (hf : ∀ j q k, j ≠ k → (f j q).getD k 0 = q.getD k 0) : ∀ (n : Nat) (q : List Int) (k : Nat), n ≤ k → (itN f n q).getD k 0 = q.getD k 0
  | 0, q, k, _ => rfl
  | n + 1, q, k, h => by rw [itN, hf _ _ _ (by omega), itN_other hf n q k (by omega)]
theorem four_steps (b : List Int) (t : Nat) (ht : t < 64) (q : List Int) (hq : q.length = 64) (h0 : q.getD t 0 = 0) (hr : ∀ j, 0 ≤ b.getD j 0 ∧ b.getD j 0 < 256) :
    wd4S b (4 * t + 3) (wd4S b (4 * t + 2) (wd4S b (4 * t + 1) (wd4S b (4 * t) q))) = wbS b t q := by
  have e0 : (4 * t) / 4 = t := by omega
  have e1 : (4 * t + 1) / 4 = t := by omega
  have e2 : (4 * t + 2) / 4 = t := by omega
  have e3 : (4 * t + 3) / 4 = t := by omega
  have hl : t < q.length := by omega
  simp only [wd4S, wbS, e0, e1, e2, e3, List.set_set, getD_set_self _ hl, h0]
  rw [four_bytes (hr _) (hr _) (hr _) (hr _)]
  rfl
theorem spI_eq (b : List Int) (hr : ∀ j, 0 ≤ b.getD j 0 ∧ b.getD j 0 < 256) : ∀ n, n ≤ 16 → itN (wd4S b) (4 * n) (List.replicate 64 0) = itN (wbS b) n (List.replicate 64 0)
  | 0, _ => rfl
  | n + 1, h => by
    have ih := spI_eq b hr n (by omega)
    rw [show 4 * (n + 1) = 4 * n + 1 + 1 + 1 + 1 by omega]
    simp only [itN]
    rw [ih]
    refine four_steps b n (by omega) _ (itN_length (fun j q h => by simp [wbS, h]) _ _ (by simp)) ?_ hr
    rw [itN_other (fun j q k hjk => by simp only [wbS]; exact getD_set_other _ hjk) n _ n (Nat.le_refl _)]
    rw [List.getD_eq_getElem?_getD, List.getElem?_replicate]
    split <;> rfl

theorem padF_range {b : List Int} (hr : ∀ j, 0 ≤ b.getD j 0 ∧ b.getD j 0 < 256) : ∀ x ∈ padF b, 0 ≤ x ∧ x < 256 := by
  intro x hx
  simp only [padF, List.mem_append, List.mem_cons] at hx
  rcases hx with (h | rfl | h) | h
  · exact mem_of_get (p := fun x => 0 ≤ x ∧ x < 256) hr x h
  · omega
  · have := List.eq_of_mem_replicate h; omega
  · exact ei8_range _ x h
theorem shaF_range (b : List Int) : ∀ x ∈ shaF b, 0 ≤ x ∧ x < 256 := by
  have key : ∀ n (q : List Int), (∀ x ∈ q, 0 ≤ x ∧ x < 256) → ∀ x ∈ itN (ouS (hN b)) n q, 0 ≤ x ∧ x < 256 := by
    intro n
    induction n with
    | zero => exact fun q h => h
    | succ n ih =>
      intro q h x hx
      simp only [itN, ouS] at hx
      rcases List.mem_or_eq_of_mem_set hx with h1 | rfl
      · exact ih q h x h1
      · unfold byt32; rw [wrap8]; omega
  exact key 32 _ (fun x hx => by have := List.eq_of_mem_replicate hx; omega)
end Go.Pw
end
section
/-
  Walks by computing. No condition.
-/
set_option linter.all false
set_option maxRecDepth 100000
set_option maxHeartbeats 1000000
namespace Go.Pw
open Go Go.Px Go.RowKit

def setId : List (Pc FMp) → Nat → Ce FMp → List (Pc FMp)
  | [], _, _ => []
  | .bk i c ty :: r, id, c' => bif Nat.beq i id then .bk i c' ty :: r else .bk i c ty :: setId r id c'
  | .sl i n q c e s :: r, id, c' => bif Nat.beq i id then .sl i n q c' e s :: r else .sl i n q c e s :: setId r id c'
  | p :: r, id, c' => p :: setId r id c'
theorem imin : IntKind.i64.min = -9223372036854775808 := by kernel_rfl
theorem imax : IntKind.i64.max = 9223372036854775807 := by kernel_rfl
def zz (k : IntKind) (l : List Int) (n : Nat) : Ce FMp := [.b (.iz k l n)]

noncomputable def cd_factors : Code := (Go.Proofs.Try.f131.body).getD .skip
def sg_factors : List Arg := []
def pr_factors : SgT FMp sg_factors → List Prop
  | () => ([] : List Prop)
def ps_factors : SgT FMp sg_factors → PS FMp
  | () => (⟨Unit, fun y => [], fun y => .v (.ag (zz .u32 K256 64)), fun y => [], fun y => [K256.length = 64]⟩ : PS FMp)
def la_factors : SgT FMp sg_factors → List (Nat × (SS FMp → HA FMp))
  | () => ([] : List (Nat × (SS FMp → HA FMp)))
def ca_factors : SgT FMp sg_factors → List (Nat × (SS FMp → HA FMp))
  | () => ([] : List (Nat × (SS FMp → HA FMp)))
theorem vc_factors  : Vc (vc (FM := FMp) Xp 2 [] (la_factors ()) (ca_factors ()) [] [] [.cell 0 196] sg_factors pr_factors ps_factors cd_factors 300 ()) := by
  refine ⟨Eq.mpr (β := ∀ (b : Nat), ∃ (y : Unit), ((((((((((((((((((((((((((((((((((((((((((((((((((((((((((((((((List.replicate (64 : Nat) (0 : Int)).set (0 : Nat) (1116352408 : Int)).set (1 : Nat) (1899447441 : Int)).set (2 : Nat) (3049323471 : Int)).set (3 : Nat) (3921009573 : Int)).set (4 : Nat) (961987163 : Int)).set (5 : Nat) (1508970993 : Int)).set (6 : Nat) (2453635748 : Int)).set (7 : Nat) (2870763221 : Int)).set (8 : Nat) (3624381080 : Int)).set (9 : Nat) (310598401 : Int)).set (10 : Nat) (607225278 : Int)).set (11 : Nat) (1426881987 : Int)).set (12 : Nat) (1925078388 : Int)).set (13 : Nat) (2162078206 : Int)).set (14 : Nat) (2614888103 : Int)).set (15 : Nat) (3248222580 : Int)).set (16 : Nat) (3835390401 : Int)).set (17 : Nat) (4022224774 : Int)).set (18 : Nat) (264347078 : Int)).set (19 : Nat) (604807628 : Int)).set (20 : Nat) (770255983 : Int)).set (21 : Nat) (1249150122 : Int)).set (22 : Nat) (1555081692 : Int)).set (23 : Nat) (1996064986 : Int)).set (24 : Nat) (2554220882 : Int)).set (25 : Nat) (2821834349 : Int)).set (26 : Nat) (2952996808 : Int)).set (27 : Nat) (3210313671 : Int)).set (28 : Nat) (3336571891 : Int)).set (29 : Nat) (3584528711 : Int)).set (30 : Nat) (113926993 : Int)).set (31 : Nat) (338241895 : Int)).set (32 : Nat) (666307205 : Int)).set (33 : Nat) (773529912 : Int)).set (34 : Nat) (1294757372 : Int)).set (35 : Nat) (1396182291 : Int)).set (36 : Nat) (1695183700 : Int)).set (37 : Nat) (1986661051 : Int)).set (38 : Nat) (2177026350 : Int)).set (39 : Nat) (2456956037 : Int)).set (40 : Nat) (2730485921 : Int)).set (41 : Nat) (2820302411 : Int)).set (42 : Nat) (3259730800 : Int)).set (43 : Nat) (3345764771 : Int)).set (44 : Nat) (3516065817 : Int)).set (45 : Nat) (3600352804 : Int)).set (46 : Nat) (4094571909 : Int)).set (47 : Nat) (275423344 : Int)).set (48 : Nat) (430227734 : Int)).set (49 : Nat) (506948616 : Int)).set (50 : Nat) (659060556 : Int)).set (51 : Nat) (883997877 : Int)).set (52 : Nat) (958139571 : Int)).set (53 : Nat) (1322822218 : Int)).set (54 : Nat) (1537002063 : Int)).set (55 : Nat) (1747873779 : Int)).set (56 : Nat) (1955562222 : Int)).set (57 : Nat) (2024104815 : Int)).set (58 : Nat) (2227730452 : Int)).set (59 : Nat) (2361852424 : Int)).set (60 : Nat) (2428436474 : Int)).set (61 : Nat) (2756734187 : Int)).set (62 : Nat) (3204031479 : Int)).set (63 : Nat) (3329325298 : Int) = K256 ∧ (64 : Nat) = (64 : Nat) ∧ (64 : Nat) = (64 : Nat)) (by kernel_rfl) ?_⟩
  simp only [imin, imax, decide_eq_true_eq, decide_eq_false_iff_not, Prod.forall, Prod.exists, exists_eq_left', exists_eq_left, exists_and_left, exists_and_right, exists_eq_right, exists_eq, exists_eq', true_and, and_true, forall_const, exists_const, eq_self, Bool.not_eq_true, Bool.not_eq_eq_eq_not, Bool.not_true, Bool.not_false, Value.slice.injEq, Option.getD_some]
  kernel_rfl
noncomputable def con_factors : Con Xp.P FMp := ⟨131, sg_factors, pr_factors, ps_factors, vc_ok (La := la_factors) (Ca := ca_factors) 300 (fn := Go.Proofs.Try.f131) (by kernel_rfl) (c := cd_factors) (by kernel_rfl) (by kernel_rfl) (by kernel_rfl) (by kernel_rfl) (fun ⟨⟩ => vc_factors )⟩
noncomputable def cd_first : Code := (Go.Proofs.Try.f132.body).getD .skip
def sg_first : List Arg := []
def pr_first : SgT FMp sg_first → List Prop
  | () => ([] : List Prop)
def ps_first : SgT FMp sg_first → PS FMp
  | () => (⟨Unit, fun y => [], fun y => .v (.ag (zz .u32 H256 8)), fun y => [], fun y => [H256.length = 8]⟩ : PS FMp)
def la_first : SgT FMp sg_first → List (Nat × (SS FMp → HA FMp))
  | () => ([] : List (Nat × (SS FMp → HA FMp)))
def ca_first : SgT FMp sg_first → List (Nat × (SS FMp → HA FMp))
  | () => ([] : List (Nat × (SS FMp → HA FMp)))
theorem vc_first  : Vc (vc (FM := FMp) Xp 2 [] (la_first ()) (ca_first ()) [] [] [.cell 0 172] sg_first pr_first ps_first cd_first 300 ()) := by
  refine ⟨Eq.mpr (β := ∀ (b : Nat), ∃ (y : Unit), ((((((((List.replicate (8 : Nat) (0 : Int)).set (0 : Nat) (1779033703 : Int)).set (1 : Nat) (3144134277 : Int)).set (2 : Nat) (1013904242 : Int)).set (3 : Nat) (2773480762 : Int)).set (4 : Nat) (1359893119 : Int)).set (5 : Nat) (2600822924 : Int)).set (6 : Nat) (528734635 : Int)).set (7 : Nat) (1541459225 : Int) = H256 ∧ (8 : Nat) = (8 : Nat) ∧ (8 : Nat) = (8 : Nat)) (by kernel_rfl) ?_⟩
  simp only [imin, imax, decide_eq_true_eq, decide_eq_false_iff_not, Prod.forall, Prod.exists, exists_eq_left', exists_eq_left, exists_and_left, exists_and_right, exists_eq_right, exists_eq, exists_eq', true_and, and_true, forall_const, exists_const, eq_self, Bool.not_eq_true, Bool.not_eq_eq_eq_not, Bool.not_true, Bool.not_false, Value.slice.injEq, Option.getD_some]
  kernel_rfl
noncomputable def con_first : Con Xp.P FMp := ⟨132, sg_first, pr_first, ps_first, vc_ok (La := la_first) (Ca := ca_first) 300 (fn := Go.Proofs.Try.f132) (by kernel_rfl) (c := cd_first) (by kernel_rfl) (by kernel_rfl) (by kernel_rfl) (by kernel_rfl) (fun ⟨⟩ => vc_first )⟩
noncomputable def cd_kays : Code := (Go.Proofs.Try.f118.body).getD .skip
def sg_kays : List Arg := []
def pr_kays : SgT FMp sg_kays → List Prop
  | () => ([] : List Prop)
def ps_kays : SgT FMp sg_kays → PS FMp
  | () => (⟨Unit, fun y => [], fun y => .v (.ag (zz .u32 K256 64)), fun y => [], fun y => [K256.length = 64]⟩ : PS FMp)
def la_kays : SgT FMp sg_kays → List (Nat × (SS FMp → HA FMp))
  | () => ([] : List (Nat × (SS FMp → HA FMp)))
def ca_kays : SgT FMp sg_kays → List (Nat × (SS FMp → HA FMp))
  | () => ([] : List (Nat × (SS FMp → HA FMp)))
theorem vc_kays  : Vc (vc (FM := FMp) Xp 2 [] (la_kays ()) (ca_kays ()) [] [] [.cell 0 196] sg_kays pr_kays ps_kays cd_kays 300 ()) := by
  refine ⟨Eq.mpr (β := ∀ (b : Nat), ∃ (y : Unit), ((((((((((((((((((((((((((((((((((((((((((((((((((((((((((((((((List.replicate (64 : Nat) (0 : Int)).set (0 : Nat) (1116352408 : Int)).set (1 : Nat) (1899447441 : Int)).set (2 : Nat) (3049323471 : Int)).set (3 : Nat) (3921009573 : Int)).set (4 : Nat) (961987163 : Int)).set (5 : Nat) (1508970993 : Int)).set (6 : Nat) (2453635748 : Int)).set (7 : Nat) (2870763221 : Int)).set (8 : Nat) (3624381080 : Int)).set (9 : Nat) (310598401 : Int)).set (10 : Nat) (607225278 : Int)).set (11 : Nat) (1426881987 : Int)).set (12 : Nat) (1925078388 : Int)).set (13 : Nat) (2162078206 : Int)).set (14 : Nat) (2614888103 : Int)).set (15 : Nat) (3248222580 : Int)).set (16 : Nat) (3835390401 : Int)).set (17 : Nat) (4022224774 : Int)).set (18 : Nat) (264347078 : Int)).set (19 : Nat) (604807628 : Int)).set (20 : Nat) (770255983 : Int)).set (21 : Nat) (1249150122 : Int)).set (22 : Nat) (1555081692 : Int)).set (23 : Nat) (1996064986 : Int)).set (24 : Nat) (2554220882 : Int)).set (25 : Nat) (2821834349 : Int)).set (26 : Nat) (2952996808 : Int)).set (27 : Nat) (3210313671 : Int)).set (28 : Nat) (3336571891 : Int)).set (29 : Nat) (3584528711 : Int)).set (30 : Nat) (113926993 : Int)).set (31 : Nat) (338241895 : Int)).set (32 : Nat) (666307205 : Int)).set (33 : Nat) (773529912 : Int)).set (34 : Nat) (1294757372 : Int)).set (35 : Nat) (1396182291 : Int)).set (36 : Nat) (1695183700 : Int)).set (37 : Nat) (1986661051 : Int)).set (38 : Nat) (2177026350 : Int)).set (39 : Nat) (2456956037 : Int)).set (40 : Nat) (2730485921 : Int)).set (41 : Nat) (2820302411 : Int)).set (42 : Nat) (3259730800 : Int)).set (43 : Nat) (3345764771 : Int)).set (44 : Nat) (3516065817 : Int)).set (45 : Nat) (3600352804 : Int)).set (46 : Nat) (4094571909 : Int)).set (47 : Nat) (275423344 : Int)).set (48 : Nat) (430227734 : Int)).set (49 : Nat) (506948616 : Int)).set (50 : Nat) (659060556 : Int)).set (51 : Nat) (883997877 : Int)).set (52 : Nat) (958139571 : Int)).set (53 : Nat) (1322822218 : Int)).set (54 : Nat) (1537002063 : Int)).set (55 : Nat) (1747873779 : Int)).set (56 : Nat) (1955562222 : Int)).set (57 : Nat) (2024104815 : Int)).set (58 : Nat) (2227730452 : Int)).set (59 : Nat) (2361852424 : Int)).set (60 : Nat) (2428436474 : Int)).set (61 : Nat) (2756734187 : Int)).set (62 : Nat) (3204031479 : Int)).set (63 : Nat) (3329325298 : Int) = K256 ∧ (64 : Nat) = (64 : Nat) ∧ (64 : Nat) = (64 : Nat)) (by kernel_rfl) ?_⟩
  simp only [imin, imax, decide_eq_true_eq, decide_eq_false_iff_not, Prod.forall, Prod.exists, exists_eq_left', exists_eq_left, exists_and_left, exists_and_right, exists_eq_right, exists_eq, exists_eq', true_and, and_true, forall_const, exists_const, eq_self, Bool.not_eq_true, Bool.not_eq_eq_eq_not, Bool.not_true, Bool.not_false, Value.slice.injEq, Option.getD_some]
  kernel_rfl
noncomputable def con_kays : Con Xp.P FMp := ⟨118, sg_kays, pr_kays, ps_kays, vc_ok (La := la_kays) (Ca := ca_kays) 300 (fn := Go.Proofs.Try.f118) (by kernel_rfl) (c := cd_kays) (by kernel_rfl) (by kernel_rfl) (by kernel_rfl) (by kernel_rfl) (fun ⟨⟩ => vc_kays )⟩
noncomputable def cd_rotl : Code := (Go.Proofs.Try.f145.body).getD .skip
def sg_rotl : List Arg := [.one (.int .u32), .one (.int .i64)]
def pr_rotl : SgT FMp sg_rotl → List Prop
  | (x, (k, ())) => (fun (x k : Int) => ([] : List Prop)) x k
def ps_rotl : SgT FMp sg_rotl → PS FMp
  | (x, (k, ())) => (fun (x k : Int) => (⟨Unit, fun y => [], fun y => one (.int .u32 (rotl x k)), fun y => [], fun y => []⟩ : PS FMp)) x k
def la_rotl : SgT FMp sg_rotl → List (Nat × (SS FMp → HA FMp))
  | (x, (k, ())) => (fun (x k : Int) => ([] : List (Nat × (SS FMp → HA FMp)))) x k
def ca_rotl : SgT FMp sg_rotl → List (Nat × (SS FMp → HA FMp))
  | (x, (k, ())) => (fun (x k : Int) => ([] : List (Nat × (SS FMp → HA FMp)))) x k
theorem vc_rotl (x k : Int) : Vc (vc (FM := FMp) Xp 17 [] (la_rotl (x, (k, ()))) (ca_rotl (x, (k, ()))) [] [] [.tmp 4] sg_rotl pr_rotl ps_rotl cd_rotl 300 (x, (k, ()))) := by
  refine ⟨Eq.mpr (β := (0 : Int) ≤ bnd IntKind.u64 (IntKind.u64.wrap k) (31 : Int) ∧ (0 : Int) ≤ IntKind.u64.wrap ((32 : Int) - bnd IntKind.u64 (IntKind.u64.wrap k) (31 : Int)) ∧ ∃ (y : Unit), bor IntKind.u32 (shlV IntKind.u32 x (bnd IntKind.u64 (IntKind.u64.wrap k) (31 : Int))) (shrV IntKind.u32 x (IntKind.u64.wrap ((32 : Int) - bnd IntKind.u64 (IntKind.u64.wrap k) (31 : Int)))) = rotl x k) (by kernel_rfl) ?_⟩
  simp only [imin, imax, decide_eq_true_eq, decide_eq_false_iff_not, Prod.forall, Prod.exists, exists_eq_left', exists_eq_left, exists_and_left, exists_and_right, exists_eq_right, exists_eq, exists_eq', true_and, and_true, forall_const, exists_const, eq_self, Bool.not_eq_true, Bool.not_eq_eq_eq_not, Bool.not_true, Bool.not_false, Value.slice.injEq, Option.getD_some]
  exact ⟨bnd_nn _ _, wrap_nn _, rfl⟩
noncomputable def con_rotl : Con Xp.P FMp := ⟨145, sg_rotl, pr_rotl, ps_rotl, vc_ok (La := la_rotl) (Ca := ca_rotl) 300 (fn := Go.Proofs.Try.f145) (by kernel_rfl) (c := cd_rotl) (by kernel_rfl) (by kernel_rfl) (by kernel_rfl) (by kernel_rfl) (fun ⟨x, ⟨k, ⟨⟩⟩⟩ => vc_rotl x k)⟩
noncomputable def cd_turn : Code := (Go.Proofs.Try.f119.body).getD .skip
def sg_turn : List Arg := [.one (.int .u32), .one (.int .u64)]
def pr_turn : SgT FMp sg_turn → List Prop
  | (x, (n, ())) => (fun (x n : Int) => ([0 ≤ n, n ≤ 32] : List Prop)) x n
def ps_turn : SgT FMp sg_turn → PS FMp
  | (x, (n, ())) => (fun (x n : Int) => (⟨Unit, fun y => [], fun y => one (.int .u32 (rotr x n)), fun y => [], fun y => []⟩ : PS FMp)) x n
def la_turn : SgT FMp sg_turn → List (Nat × (SS FMp → HA FMp))
  | (x, (n, ())) => (fun (x n : Int) => ([] : List (Nat × (SS FMp → HA FMp)))) x n
def ca_turn : SgT FMp sg_turn → List (Nat × (SS FMp → HA FMp))
  | (x, (n, ())) => (fun (x n : Int) => ([] : List (Nat × (SS FMp → HA FMp)))) x n
theorem vc_turn (x n : Int) : Vc (vc (FM := FMp) Xp 13 [] (la_turn (x, (n, ()))) (ca_turn (x, (n, ()))) [] [] [.tmp 4] sg_turn pr_turn ps_turn cd_turn 300 (x, (n, ()))) := by
  refine ⟨Eq.mpr (β := (0 : Int) ≤ n → n ≤ (32 : Int) → (0 : Int) ≤ n ∧ (0 : Int) ≤ IntKind.u64.wrap ((32 : Int) - n) ∧ ∃ (y : Unit), bor IntKind.u32 (shrV IntKind.u32 x n) (shlV IntKind.u32 x (IntKind.u64.wrap ((32 : Int) - n))) = rotr x n) (by kernel_rfl) ?_⟩
  simp only [imin, imax, decide_eq_true_eq, decide_eq_false_iff_not, Prod.forall, Prod.exists, exists_eq_left', exists_eq_left, exists_and_left, exists_and_right, exists_eq_right, exists_eq, exists_eq', true_and, and_true, forall_const, exists_const, eq_self, Bool.not_eq_true, Bool.not_eq_eq_eq_not, Bool.not_true, Bool.not_false, Value.slice.injEq, Option.getD_some]
  exact fun h _ => ⟨h, wrap_nn _, rfl⟩
noncomputable def con_turn : Con Xp.P FMp := ⟨119, sg_turn, pr_turn, ps_turn, vc_ok (La := la_turn) (Ca := ca_turn) 300 (fn := Go.Proofs.Try.f119) (by kernel_rfl) (c := cd_turn) (by kernel_rfl) (by kernel_rfl) (by kernel_rfl) (by kernel_rfl) (fun ⟨x, ⟨n, ⟨⟩⟩⟩ => vc_turn x n)⟩
noncomputable def cd_turned : Code := (Go.Proofs.Try.f143.body).getD .skip
def sg_turned : List Arg := [.one (.int .u32), .one (.sli .i64)]
def pr_turned : SgT FMp sg_turned → List Prop
  | (x, ((A, (l, c)), ())) => (fun (x : Int) (A : Option Addr) (l : List Int) (c : Nat) => ([∀ j, 0 ≤ l.getD j 0 ∧ l.getD j 0 < 32, l.length ≤ 100] : List Prop)) x A l c
def ps_turned : SgT FMp sg_turned → PS FMp
  | (x, ((A, (l, c)), ())) => (fun (x : Int) (A : Option Addr) (l : List Int) (c : Nat) => (⟨Unit, fun y => [], fun y => one (.int .u32 (turnS x l)), fun y => [], fun y => []⟩ : PS FMp)) x A l c
def la_turned : SgT FMp sg_turned → List (Nat × (SS FMp → HA FMp))
  | (x, ((A, (l, c)), ())) => (fun (x : Int) (A : Option Addr) (l : List Int) (c : Nat) => ([(3, fun S => ⟨Int × Int, fun y => [], fun n y => [(5, some (one (.int .u32 (y.2)))), (10, some (one (.int .i64 (y.1))))], fun n y => S.m, fun y => [0 ≤ y.1, y.1 ≤ l.length, y.2 = itN (tuS x l) y.1.toNat 0], fun y => (l.length - y.1).toNat⟩)] : List (Nat × (SS FMp → HA FMp)))) x A l c
def ca_turned : SgT FMp sg_turned → List (Nat × (SS FMp → HA FMp))
  | (x, ((A, (l, c)), ())) => (fun (x : Int) (A : Option Addr) (l : List Int) (c : Nat) => ([] : List (Nat × (SS FMp → HA FMp)))) x A l c
theorem vc_turned (x : Int) (A : Option Addr) (l : List Int) (c : Nat) : Vc (vc (FM := FMp) Xp 22 [con_rotl] (la_turned (x, ((A, (l, c)), ()))) (ca_turned (x, ((A, (l, c)), ()))) [] [] [.tmp 4] sg_turned pr_turned ps_turned cd_turned 300 (x, ((A, (l, c)), ()))) := by
  refine ⟨Eq.mpr (β := (A.isNone = true → l = []) → (∀ (j : Nat), (0 : Int) ≤ l.getD j (0 : Int) ∧ l.getD j (0 : Int) < (32 : Int)) → l.length ≤ (100 : Nat) → (∃ (y : Int × Int), (0 : Int) = y.2 ∧ (0 : Int) = y.1 ∧ (0 : Int) ≤ y.1 ∧ y.1 ≤ (↑l.length : Int) ∧ y.2 = itN (tuS x l) y.1.toNat (0 : Int)) ∧ ∀ (y : Int × Int), (0 : Int) ≤ y.1 → y.1 ≤ (↑l.length : Int) → y.2 = itN (tuS x l) y.1.toNat (0 : Int) → (decide (y.1 < (↑l.length : Int)) = true → (0 : Int) ≤ y.1 ∧ y.1 < (↑l.length : Int) ∧ y.1.toNat < l.length ∧ y.1.toNat < l.length ∧ (-9223372036854775808 : Int) ≤ (0 : Int) - l.getD y.1.toNat (0 : Int) ∧ (0 : Int) - l.getD y.1.toNat (0 : Int) ≤ (9223372036854775807 : Int) ∧ ∀ (y_1 : Unit), (-9223372036854775808 : Int) ≤ y.1 + (1 : Int) ∧ y.1 + (1 : Int) ≤ (9223372036854775807 : Int) ∧ ∃ (y_2 : Int × Int), bxr IntKind.u32 y.2 (rotl x ((0 : Int) - l.getD y.1.toNat (0 : Int))) = y_2.2 ∧ y.1 + (1 : Int) = y_2.1 ∧ (0 : Int) ≤ y_2.1 ∧ y_2.1 ≤ (↑l.length : Int) ∧ y_2.2 = itN (tuS x l) y_2.1.toNat (0 : Int) ∧ ((↑l.length : Int) - y_2.1).toNat < ((↑l.length : Int) - y.1).toNat) ∧ (decide (y.1 < (↑l.length : Int)) = false → ∃ (y_1 : Unit), y.2 = turnS x l)) (by kernel_rfl) ?_⟩
  simp only [imin, imax, decide_eq_true_eq, decide_eq_false_iff_not, Prod.forall, Prod.exists, exists_eq_left', exists_eq_left, exists_and_left, exists_and_right, exists_eq_right, exists_eq, exists_eq', true_and, and_true, forall_const, exists_const, eq_self, Bool.not_eq_true, Bool.not_eq_eq_eq_not, Bool.not_true, Bool.not_false, Value.slice.injEq, Option.getD_some]
  intro _ hs hn
  refine ⟨⟨by omega, by omega, rfl⟩, ?_⟩
  intro i z h1 h2 h3
  refine ⟨fun h => ?_, fun h => ?_⟩
  · have hx := hs i.toNat
    refine ⟨h1, h, by omega, by omega, by omega, by omega, by omega, by omega, by omega, by omega, ?_, by omega⟩
    rw [h3, show (i + 1).toNat = i.toNat + 1 by omega]; rfl
  · rw [h3, show i.toNat = l.length by omega]; rfl
noncomputable def con_turned : Con Xp.P FMp := ⟨143, sg_turned, pr_turned, ps_turned, vc_ok (La := la_turned) (Ca := ca_turned) 300 (fn := Go.Proofs.Try.f143) (by kernel_rfl) (c := cd_turned) (by kernel_rfl) (by kernel_rfl) (by kernel_rfl) (by kernel_rfl) (fun ⟨x, ⟨⟨A, ⟨l, c⟩⟩, ⟨⟩⟩⟩ => vc_turned x A l c)⟩

end Go.Pw
end
section
/-
  Walks by computing. No condition.
-/
set_option linter.all false
set_option maxRecDepth 100000
set_option maxHeartbeats 1000000
namespace Go.Pw
open Go Go.Px Go.RowKit

noncomputable def cd_spread : Code := (Go.Proofs.Try.f142.body).getD .skip
def sg_spread : List Arg := [.one (.sli .u8)]
def pr_spread : SgT FMp sg_spread → List Prop
  | ((A, (b, c)), ()) => (fun (A : Option Addr) (b : List Int) (c : Nat) => ([b.length = 64] : List Prop)) A b c
def ps_spread : SgT FMp sg_spread → PS FMp
  | ((A, (b, c)), ()) => (fun (A : Option Addr) (b : List Int) (c : Nat) => (⟨Unit, fun y => [], fun y => .v (.ag (zz .u32 (spF b) 64)), fun y => [], fun y => [(spF b).length = 64]⟩ : PS FMp)) A b c
def la_spread : SgT FMp sg_spread → List (Nat × (SS FMp → HA FMp))
  | ((A, (b, c)), ()) => (fun (A : Option Addr) (b : List Int) (c : Nat) => ([(3, fun S => ⟨Int × (List Int), fun y => [], fun n y => [(8, some (one (.int .i64 (y.1))))], fun n y => setId S.m 2 (zz .u32 y.2 64), fun y => [0 ≤ y.1, y.1 ≤ 64, y.2 = itN (wd4S b) y.1.toNat (List.replicate 64 0)], fun y => (64 - y.1).toNat⟩), (8, fun S => ⟨Int × (List Int), fun y => [], fun n y => [(5, some (one (.int .i64 (y.1))))], fun n y => setId S.m 2 (zz .u32 y.2 64), fun y => [16 ≤ y.1, y.1 ≤ 64, y.2 = itN spS (y.1.toNat - 16) (spI b)], fun y => (64 - y.1).toNat⟩)] : List (Nat × (SS FMp → HA FMp)))) A b c
def ca_spread : SgT FMp sg_spread → List (Nat × (SS FMp → HA FMp))
  | ((A, (b, c)), ()) => (fun (A : Option Addr) (b : List Int) (c : Nat) => ([] : List (Nat × (SS FMp → HA FMp)))) A b c
theorem vc_spread (A : Option Addr) (b : List Int) (c : Nat) : Vc (vc (FM := FMp) Xp 76 [con_turned] (la_spread ((A, (b, c)), ())) (ca_spread ((A, (b, c)), ())) [] [] [.cell 2 196] sg_spread pr_spread ps_spread cd_spread 300 ((A, (b, c)), ())) := by
  refine ⟨Eq.mpr (β := (A.isNone = true → b = []) → b.length = (64 : Nat) → ∀ (b_1 b_2 : Nat), (∃ (y : Int × List Int), (0 : Int) = y.1 ∧ List.replicate (64 : Nat) (0 : Int) = y.2 ∧ (64 : Nat) = (64 : Nat) ∧ List.replicate (64 : Nat) (0 : Int) = List.replicate (64 : Nat) (0 : Int) ∧ (64 : Nat) = (64 : Nat) ∧ (0 : Int) ≤ y.1 ∧ y.1 ≤ (64 : Int) ∧ y.2 = itN (wd4S b) y.1.toNat (List.replicate (64 : Nat) (0 : Int))) ∧ ∀ (y : Int × List Int), y.2.length = (64 : Nat) → (64 : Nat) = (64 : Nat) → (0 : Int) ≤ y.1 → y.1 ≤ (64 : Int) → y.2 = itN (wd4S b) y.1.toNat (List.replicate (64 : Nat) (0 : Int)) → (decide (y.1 < (64 : Int)) = true → (0 : Int) ≤ y.1 ∧ y.1 ≤ (9223372036854775807 : Int) ∧ (0 : Int) < (4 : Int) ∧ (0 : Int) ≤ y.1 ∧ y.1 ≤ (9223372036854775807 : Int) ∧ (0 : Int) < (4 : Int) ∧ (0 : Int) ≤ y.1 / (4 : Int) ∧ y.1 / (4 : Int) < (64 : Int) ∧ (y.1 / (4 : Int)).toNat < (64 : Nat) ∧ (0 : Int) ≤ y.1 ∧ y.1 < (↑b.length : Int) ∧ y.1.toNat < b.length ∧ y.1.toNat < b.length ∧ (0 : Int) ≤ y.1 / (4 : Int) ∧ y.1 / (4 : Int) < (64 : Int) ∧ (y.1 / (4 : Int)).toNat < (64 : Nat) ∧ ∀ (q : List Int), q = y.2.set (y.1 / (4 : Int)).toNat (bor IntKind.u32 (shlV IntKind.u32 (y.2.getD (y.1 / (4 : Int)).toNat (0 : Int)) (8 : Int)) (IntKind.u32.wrap (b.getD y.1.toNat (0 : Int)))) → (-9223372036854775808 : Int) ≤ y.1 + (1 : Int) ∧ y.1 + (1 : Int) ≤ (9223372036854775807 : Int) ∧ ∃ (y_1 : Int × List Int), y.1 + (1 : Int) = y_1.1 ∧ q = y_1.2 ∧ (64 : Nat) = (64 : Nat) ∧ List.replicate (64 : Nat) (0 : Int) = List.replicate (64 : Nat) (0 : Int) ∧ (64 : Nat) = (64 : Nat) ∧ (0 : Int) ≤ y_1.1 ∧ y_1.1 ≤ (64 : Int) ∧ y_1.2 = itN (wd4S b) y_1.1.toNat (List.replicate (64 : Nat) (0 : Int)) ∧ ((64 : Int) - y_1.1).toNat < ((64 : Int) - y.1).toNat) ∧ (decide (y.1 < (64 : Int)) = false → (∃ (y_1 : Int × List Int), (16 : Int) = y_1.1 ∧ y.2 = y_1.2 ∧ (64 : Nat) = (64 : Nat) ∧ List.replicate (64 : Nat) (0 : Int) = List.replicate (64 : Nat) (0 : Int) ∧ (64 : Nat) = (64 : Nat) ∧ (16 : Int) ≤ y_1.1 ∧ y_1.1 ≤ (64 : Int) ∧ y_1.2 = itN spS (y_1.1.toNat - (16 : Nat)) (spI b)) ∧ ∀ (y : Int × List Int), y.2.length = (64 : Nat) → (64 : Nat) = (64 : Nat) → (16 : Int) ≤ y.1 → y.1 ≤ (64 : Int) → y.2 = itN spS (y.1.toNat - (16 : Nat)) (spI b) → (decide (y.1 < (64 : Int)) = true → (-9223372036854775808 : Int) ≤ y.1 - (2 : Int) ∧ y.1 - (2 : Int) ≤ (9223372036854775807 : Int) ∧ (0 : Int) ≤ y.1 - (2 : Int) ∧ y.1 - (2 : Int) < (64 : Int) ∧ (y.1 - (2 : Int)).toNat < (64 : Nat) ∧ (-9223372036854775808 : Int) ≤ y.1 - (15 : Int) ∧ y.1 - (15 : Int) ≤ (9223372036854775807 : Int) ∧ (0 : Int) ≤ y.1 - (15 : Int) ∧ y.1 - (15 : Int) < (64 : Int) ∧ (y.1 - (15 : Int)).toNat < (64 : Nat) ∧ ∀ (b_3 : Nat), (2 : Nat) = (2 : Nat) ∧ (∀ (j : Nat), (0 : Int) ≤ [(17 : Int), (19 : Int)].getD j (0 : Int) ∧ [(17 : Int), (19 : Int)].getD j (0 : Int) < (32 : Int)) ∧ (2 : Nat) ≤ (100 : Nat) ∧ ∀ (y_1 : Unit), (0 : Int) ≤ y.1 ∧ y.1 < (64 : Int) ∧ y.1.toNat < (64 : Nat) ∧ ∀ (q : List Int), q = y.2.set y.1.toNat (bxr IntKind.u32 (turnS (y.2.getD (y.1 - (2 : Int)).toNat (0 : Int)) [(17 : Int), (19 : Int)]) (shrV IntKind.u32 (y.2.getD (y.1 - (2 : Int)).toNat (0 : Int)) (10 : Int))) → (0 : Int) ≤ y.1 ∧ y.1 < (64 : Int) ∧ y.1.toNat < (64 : Nat) ∧ (-9223372036854775808 : Int) ≤ y.1 - (7 : Int) ∧ y.1 - (7 : Int) ≤ (9223372036854775807 : Int) ∧ (0 : Int) ≤ y.1 - (7 : Int) ∧ y.1 - (7 : Int) < (64 : Int) ∧ (y.1 - (7 : Int)).toNat < (64 : Nat) ∧ (0 : Int) ≤ y.1 ∧ y.1 < (64 : Int) ∧ y.1.toNat < (64 : Nat) ∧ ∀ (q_1 : List Int), q_1 = q.set y.1.toNat (IntKind.u32.wrap (q.getD y.1.toNat (0 : Int) + q.getD (y.1 - (7 : Int)).toNat (0 : Int))) → (0 : Int) ≤ y.1 ∧ y.1 < (64 : Int) ∧ y.1.toNat < (64 : Nat) ∧ ∀ (b_4 : Nat), (2 : Nat) = (2 : Nat) ∧ (∀ (j : Nat), (0 : Int) ≤ [(7 : Int), (18 : Int)].getD j (0 : Int) ∧ [(7 : Int), (18 : Int)].getD j (0 : Int) < (32 : Int)) ∧ (2 : Nat) ≤ (100 : Nat) ∧ ∀ (y_2 : Unit), (0 : Int) ≤ y.1 ∧ y.1 < (64 : Int) ∧ y.1.toNat < (64 : Nat) ∧ ∀ (q : List Int), q = q_1.set y.1.toNat (IntKind.u32.wrap (q_1.getD y.1.toNat (0 : Int) + bxr IntKind.u32 (turnS (y.2.getD (y.1 - (15 : Int)).toNat (0 : Int)) [(7 : Int), (18 : Int)]) (shrV IntKind.u32 (y.2.getD (y.1 - (15 : Int)).toNat (0 : Int)) (3 : Int)))) → (0 : Int) ≤ y.1 ∧ y.1 < (64 : Int) ∧ y.1.toNat < (64 : Nat) ∧ (-9223372036854775808 : Int) ≤ y.1 - (16 : Int) ∧ y.1 - (16 : Int) ≤ (9223372036854775807 : Int) ∧ (0 : Int) ≤ y.1 - (16 : Int) ∧ y.1 - (16 : Int) < (64 : Int) ∧ (y.1 - (16 : Int)).toNat < (64 : Nat) ∧ (0 : Int) ≤ y.1 ∧ y.1 < (64 : Int) ∧ y.1.toNat < (64 : Nat) ∧ ∀ (q_2 : List Int), q_2 = q.set y.1.toNat (IntKind.u32.wrap (q.getD y.1.toNat (0 : Int) + q.getD (y.1 - (16 : Int)).toNat (0 : Int))) → (-9223372036854775808 : Int) ≤ y.1 + (1 : Int) ∧ y.1 + (1 : Int) ≤ (9223372036854775807 : Int) ∧ ∃ (y_3 : Int × List Int), y.1 + (1 : Int) = y_3.1 ∧ q_2 = y_3.2 ∧ (64 : Nat) = (64 : Nat) ∧ List.replicate (64 : Nat) (0 : Int) = List.replicate (64 : Nat) (0 : Int) ∧ (64 : Nat) = (64 : Nat) ∧ (16 : Int) ≤ y_3.1 ∧ y_3.1 ≤ (64 : Int) ∧ y_3.2 = itN spS (y_3.1.toNat - (16 : Nat)) (spI b) ∧ ((64 : Int) - y_3.1).toNat < ((64 : Int) - y.1).toNat) ∧ (decide (y.1 < (64 : Int)) = false → ∃ (y_1 : Unit), y.2 = spF b ∧ (64 : Nat) = (64 : Nat) ∧ (spF b).length = (64 : Nat)))) (by kernel_rfl) ?_⟩
  simp only [imin, imax, decide_eq_true_eq, decide_eq_false_iff_not, Prod.forall, Prod.exists, exists_eq_left', exists_eq_left, exists_and_left, exists_and_right, exists_eq_right, exists_eq, exists_eq', true_and, and_true, forall_const, exists_const, eq_self, Bool.not_eq_true, Bool.not_eq_eq_eq_not, Bool.not_true, Bool.not_false, Value.slice.injEq, Option.getD_some]
  intro _ hb
  refine ⟨⟨by omega, by omega, rfl⟩, fun i q hq h0 h1 h2 => ⟨fun h => ?_, fun h => ⟨?_, fun t q hq h0 h1 h2 => ⟨fun h => ?_, fun h => ?_⟩⟩⟩⟩
  · repeat refine ⟨by first | omega | with_reducible assumption | with_reducible rfl, ?_⟩
    intro q' hq'
    repeat refine ⟨by first | omega | with_reducible assumption | with_reducible rfl, ?_⟩
    refine ⟨?_, by omega⟩
    rw [hq', show (i + 1).toNat = i.toNat + 1 by omega, show (i / 4).toNat = i.toNat / 4 by omega, h2]; rfl
  · repeat refine ⟨by first | omega | with_reducible assumption | with_reducible rfl, ?_⟩
    rw [h2, show i.toNat = 64 by omega, spI]; rfl
  · repeat refine ⟨by first | omega | with_reducible assumption | with_reducible rfl, ?_⟩
    refine ⟨get_of_mem (p := fun x => 0 ≤ x ∧ x < 32) (by omega) (by decide), ?_⟩
    repeat refine ⟨by first | omega | with_reducible assumption | with_reducible rfl, ?_⟩
    intro q1 e1
    repeat refine ⟨by first | omega | with_reducible assumption | with_reducible rfl, ?_⟩
    intro q2 e2
    repeat refine ⟨by first | omega | with_reducible assumption | with_reducible rfl, ?_⟩
    refine ⟨get_of_mem (p := fun x => 0 ≤ x ∧ x < 32) (by omega) (by decide), ?_⟩
    repeat refine ⟨by first | omega | with_reducible assumption | with_reducible rfl, ?_⟩
    intro q3 e3
    repeat refine ⟨by first | omega | with_reducible assumption | with_reducible rfl, ?_⟩
    intro q4 e4
    repeat refine ⟨by first | omega | with_reducible assumption | with_reducible rfl, ?_⟩
    subst e1 e2 e3
    refine ⟨?_, by omega⟩
    rw [e4, sp_four hq h0 (by omega), show (t + 1).toNat - 16 = (t.toNat - 16) + 1 by omega, show (t - 2).toNat = t.toNat - 2 by omega, show (t - 15).toNat = t.toNat - 15 by omega, itN, spS, spV, show t.toNat - 16 + 16 = t.toNat by omega, ← h2]
  · repeat refine ⟨by first | omega | with_reducible assumption | with_reducible rfl, ?_⟩
    exact ⟨by rw [h2, show t.toNat - 16 = 48 by omega, spF], spF_length b⟩
noncomputable def con_spread : Con Xp.P FMp := ⟨142, sg_spread, pr_spread, ps_spread, vc_ok (La := la_spread) (Ca := ca_spread) 300 (fn := Go.Proofs.Try.f142) (by kernel_rfl) (c := cd_spread) (by kernel_rfl) (by kernel_rfl) (by kernel_rfl) (by kernel_rfl) (fun ⟨⟨A, ⟨b, c⟩⟩, ⟨⟩⟩ => vc_spread A b c)⟩
noncomputable def cd_through : Code := (Go.Proofs.Try.f134.body).getD .skip
def sg_through : List Arg := [.ag [.arr .u32 8], .one (.ptr .u32 64), .one (.sli .u8)]
def pr_through : SgT FMp sg_through → List Prop
  | ((hv, ()), ((kb, kl), ((A, (b, c)), ()))) => (fun (hv : List Int) (kb : Nat) (kl : List Int) (A : Option Addr) (b : List Int) (c : Nat) => ([kl = K256, b.length = 64] : List Prop)) hv kb kl A b c
def ps_through : SgT FMp sg_through → PS FMp
  | ((hv, ()), ((kb, kl), ((A, (b, c)), ()))) => (fun (hv : List Int) (kb : Nat) (kl : List Int) (A : Option Addr) (b : List Int) (c : Nat) => (⟨Unit, fun y => [], fun y => .v (.ag (zz .u32 (cmpF hv b) 8)), fun y => [], fun y => [(cmpF hv b).length = 8]⟩ : PS FMp)) hv kb kl A b c
def la_through : SgT FMp sg_through → List (Nat × (SS FMp → HA FMp))
  | ((hv, ()), ((kb, kl), ((A, (b, c)), ()))) => (fun (hv : List Int) (kb : Nat) (kl : List Int) (A : Option Addr) (b : List Int) (c : Nat) => ([(4, fun S => ⟨Int × (List Int), fun y => [], fun n y => [(18, some (one (.int .i64 (y.1))))], fun n y => setId S.m 5 (zz .u32 y.2 8), fun y => [0 ≤ y.1, y.1 ≤ 64, y.2 = itN (rnS (spF b)) y.1.toNat hv], fun y => (64 - y.1).toNat⟩), (17, fun S => ⟨Int × (List Int), fun y => [], fun n y => [(87, some (one (.int .i64 (y.1))))], fun n y => setId S.m 2 (zz .u32 y.2 8), fun y => [0 ≤ y.1, y.1 ≤ 8, y.2 = itN (adS (itN (rnS (spF b)) 64 hv)) y.1.toNat hv], fun y => (8 - y.1).toNat⟩)] : List (Nat × (SS FMp → HA FMp)))) hv kb kl A b c
def ca_through : SgT FMp sg_through → List (Nat × (SS FMp → HA FMp))
  | ((hv, ()), ((kb, kl), ((A, (b, c)), ()))) => (fun (hv : List Int) (kb : Nat) (kl : List Int) (A : Option Addr) (b : List Int) (c : Nat) => ([] : List (Nat × (SS FMp → HA FMp)))) hv kb kl A b c
theorem vc_through (hv : List Int) (kb : Nat) (kl : List Int) (A : Option Addr) (b : List Int) (c : Nat) : Vc (vc (FM := FMp) Xp 100 [con_turned, con_spread] (la_through ((hv, ()), ((kb, kl), ((A, (b, c)), ())))) (ca_through ((hv, ()), ((kb, kl), ((A, (b, c)), ())))) [] [] [.cell 6 172] sg_through pr_through ps_through cd_through 300 ((hv, ()), ((kb, kl), ((A, (b, c)), ())))) := by
  refine ⟨Eq.mpr (β := hv.length = (8 : Nat) → kl.length = (64 : Nat) → (A.isNone = true → b = []) → kl = K256 → b.length = (64 : Nat) → ∀ (b_1 b_2 : Nat), b.length = b.length ∧ b.length = (64 : Nat) ∧ ∀ (y : Unit), (spF b).length = (64 : Nat) → (spF b).length = (64 : Nat) → ∀ (b_3 b_4 : Nat), (∃ (y : Int × List Int), (0 : Int) = y.1 ∧ hv = y.2 ∧ (8 : Nat) = (8 : Nat) ∧ spF b = spF b ∧ (64 : Nat) = (64 : Nat) ∧ List.replicate (8 : Nat) (0 : Int) = List.replicate (8 : Nat) (0 : Int) ∧ (8 : Nat) = (8 : Nat) ∧ hv = hv ∧ (8 : Nat) = (8 : Nat) ∧ (0 : Int) ≤ y.1 ∧ y.1 ≤ (64 : Int) ∧ y.2 = itN (rnS (spF b)) y.1.toNat hv) ∧ ∀ (y : Int × List Int), y.2.length = (8 : Nat) → (spF b).length = (64 : Nat) → (8 : Nat) = (8 : Nat) → hv.length = (8 : Nat) → (0 : Int) ≤ y.1 → y.1 ≤ (64 : Int) → y.2 = itN (rnS (spF b)) y.1.toNat hv → (decide (y.1 < (64 : Int)) = true → ∀ (b_5 : Nat), (3 : Nat) = (3 : Nat) ∧ (∀ (j : Nat), (0 : Int) ≤ [(6 : Int), (11 : Int), (25 : Int)].getD j (0 : Int) ∧ [(6 : Int), (11 : Int), (25 : Int)].getD j (0 : Int) < (32 : Int)) ∧ (3 : Nat) ≤ (100 : Nat) ∧ ∀ (y_1 : Unit), (0 : Int) ≤ y.1 ∧ y.1 < (64 : Int) ∧ y.1.toNat < (64 : Nat) ∧ (0 : Int) ≤ y.1 ∧ y.1 < (64 : Int) ∧ y.1.toNat < (64 : Nat) ∧ ∀ (b_6 : Nat), (3 : Nat) = (3 : Nat) ∧ (∀ (j : Nat), (0 : Int) ≤ [(2 : Int), (13 : Int), (22 : Int)].getD j (0 : Int) ∧ [(2 : Int), (13 : Int), (22 : Int)].getD j (0 : Int) < (32 : Int)) ∧ (3 : Nat) ≤ (100 : Nat) ∧ ∀ (y_2 : Unit), (7 : Nat) = (7 : Nat) * Proofs.Try.prog.types[(60 : Nat)].size ∧ (-9223372036854775808 : Int) ≤ y.1 + (1 : Int) ∧ y.1 + (1 : Int) ≤ (9223372036854775807 : Int) ∧ ∃ (y_3 : Int × List Int), y.1 + (1 : Int) = y_3.1 ∧ ((List.take (1 : Nat) y.2 ++ (List.take (7 : Nat) (List.drop (0 : Nat) y.2) ++ List.drop (8 : Nat) y.2)).set (4 : Nat) (IntKind.u32.wrap ((List.take (1 : Nat) y.2 ++ (List.take (7 : Nat) (List.drop (0 : Nat) y.2) ++ List.drop (8 : Nat) y.2)).getD (4 : Nat) (0 : Int) + IntKind.u32.wrap (IntKind.u32.wrap (IntKind.u32.wrap (y.2.getD (7 : Nat) (0 : Int) + turnS (y.2.getD (4 : Nat) (0 : Int)) [(6 : Int), (11 : Int), (25 : Int)]) + bxr IntKind.u32 (bnd IntKind.u32 (y.2.getD (4 : Nat) (0 : Int)) (y.2.getD (5 : Nat) (0 : Int))) (bnd IntKind.u32 (bxr IntKind.u32 (4294967295 : Int) (y.2.getD (4 : Nat) (0 : Int))) (y.2.getD (6 : Nat) (0 : Int)))) + IntKind.u32.wrap (kl.getD y.1.toNat (0 : Int) + (spF b).getD y.1.toNat (0 : Int)))))).set (0 : Nat) (IntKind.u32.wrap (IntKind.u32.wrap (IntKind.u32.wrap (IntKind.u32.wrap (y.2.getD (7 : Nat) (0 : Int) + turnS (y.2.getD (4 : Nat) (0 : Int)) [(6 : Int), (11 : Int), (25 : Int)]) + bxr IntKind.u32 (bnd IntKind.u32 (y.2.getD (4 : Nat) (0 : Int)) (y.2.getD (5 : Nat) (0 : Int))) (bnd IntKind.u32 (bxr IntKind.u32 (4294967295 : Int) (y.2.getD (4 : Nat) (0 : Int))) (y.2.getD (6 : Nat) (0 : Int)))) + IntKind.u32.wrap (kl.getD y.1.toNat (0 : Int) + (spF b).getD y.1.toNat (0 : Int))) + IntKind.u32.wrap (turnS (y.2.getD (0 : Nat) (0 : Int)) [(2 : Int), (13 : Int), (22 : Int)] + bxr IntKind.u32 (bxr IntKind.u32 (bnd IntKind.u32 (y.2.getD (0 : Nat) (0 : Int)) (y.2.getD (1 : Nat) (0 : Int))) (bnd IntKind.u32 (y.2.getD (0 : Nat) (0 : Int)) (y.2.getD (2 : Nat) (0 : Int)))) (bnd IntKind.u32 (y.2.getD (1 : Nat) (0 : Int)) (y.2.getD (2 : Nat) (0 : Int)))))) = y_3.2 ∧ (8 : Nat) = (8 : Nat) ∧ spF b = spF b ∧ (64 : Nat) = (64 : Nat) ∧ List.replicate (8 : Nat) (0 : Int) = List.replicate (8 : Nat) (0 : Int) ∧ (8 : Nat) = (8 : Nat) ∧ hv = hv ∧ (8 : Nat) = (8 : Nat) ∧ (0 : Int) ≤ y_3.1 ∧ y_3.1 ≤ (64 : Int) ∧ y_3.2 = itN (rnS (spF b)) y_3.1.toNat hv ∧ ((64 : Int) - y_3.1).toNat < ((64 : Int) - y.1).toNat) ∧ (decide (y.1 < (64 : Int)) = false → (∃ (y_1 : Int × List Int), (0 : Int) = y_1.1 ∧ y.2 = y.2 ∧ (8 : Nat) = (8 : Nat) ∧ spF b = spF b ∧ (64 : Nat) = (64 : Nat) ∧ List.replicate (8 : Nat) (0 : Int) = List.replicate (8 : Nat) (0 : Int) ∧ (8 : Nat) = (8 : Nat) ∧ hv = y_1.2 ∧ (8 : Nat) = (8 : Nat) ∧ (0 : Int) ≤ y_1.1 ∧ y_1.1 ≤ (8 : Int) ∧ y_1.2 = itN (adS (itN (rnS (spF b)) (64 : Nat) hv)) y_1.1.toNat hv) ∧ ∀ (y_1 : Int × List Int), y.2.length = (8 : Nat) → (spF b).length = (64 : Nat) → (8 : Nat) = (8 : Nat) → y_1.2.length = (8 : Nat) → (0 : Int) ≤ y_1.1 → y_1.1 ≤ (8 : Int) → y_1.2 = itN (adS (itN (rnS (spF b)) (64 : Nat) hv)) y_1.1.toNat hv → (decide (y_1.1 < (8 : Int)) = true → (0 : Int) ≤ y_1.1 ∧ y_1.1 < (8 : Int) ∧ y_1.1.toNat < (8 : Nat) ∧ (0 : Int) ≤ y_1.1 ∧ y_1.1 < (8 : Int) ∧ y_1.1.toNat < (8 : Nat) ∧ (0 : Int) ≤ y_1.1 ∧ y_1.1 < (8 : Int) ∧ y_1.1.toNat < (8 : Nat) ∧ ∀ (q : List Int), q = y_1.2.set y_1.1.toNat (IntKind.u32.wrap (y_1.2.getD y_1.1.toNat (0 : Int) + y.2.getD y_1.1.toNat (0 : Int))) → (-9223372036854775808 : Int) ≤ y_1.1 + (1 : Int) ∧ y_1.1 + (1 : Int) ≤ (9223372036854775807 : Int) ∧ ∃ (y_2 : Int × List Int), y_1.1 + (1 : Int) = y_2.1 ∧ y.2 = y.2 ∧ (8 : Nat) = (8 : Nat) ∧ spF b = spF b ∧ (64 : Nat) = (64 : Nat) ∧ List.replicate (8 : Nat) (0 : Int) = List.replicate (8 : Nat) (0 : Int) ∧ (8 : Nat) = (8 : Nat) ∧ q = y_2.2 ∧ (8 : Nat) = (8 : Nat) ∧ (0 : Int) ≤ y_2.1 ∧ y_2.1 ≤ (8 : Int) ∧ y_2.2 = itN (adS (itN (rnS (spF b)) (64 : Nat) hv)) y_2.1.toNat hv ∧ ((8 : Int) - y_2.1).toNat < ((8 : Int) - y_1.1).toNat) ∧ (decide (y_1.1 < (8 : Int)) = false → ∃ (y : Unit), y_1.2 = cmpF hv b ∧ (8 : Nat) = (8 : Nat) ∧ (cmpF hv b).length = (8 : Nat)))) (by kernel_rfl) ?_⟩
  simp only [imin, imax, decide_eq_true_eq, decide_eq_false_iff_not, Prod.forall, Prod.exists, exists_eq_left', exists_eq_left, exists_and_left, exists_and_right, exists_eq_right, exists_eq, exists_eq', true_and, and_true, forall_const, exists_const, eq_self, Bool.not_eq_true, Bool.not_eq_eq_eq_not, Bool.not_true, Bool.not_false, Value.slice.injEq, Option.getD_some]
  intro hh hk _ hK hb
  subst hK
  refine ⟨hb, fun hs _ => ⟨⟨by omega, by omega, rfl⟩, fun i s hs8 _ _ h0 h1 h2 => ⟨fun h => ?_, fun h => ⟨⟨by omega, by omega, rfl⟩, fun j q _ _ hq h3 h4 h5 => ⟨fun h6 => ?_, fun h6 => ?_⟩⟩⟩⟩⟩
  · refine ⟨get_of_mem (p := fun x => 0 ≤ x ∧ x < 32) (by omega) (by decide), ?_⟩
    repeat refine ⟨by first | omega | with_reducible assumption | with_reducible rfl, ?_⟩
    refine ⟨get_of_mem (p := fun x => 0 ≤ x ∧ x < 32) (by omega) (by decide), ?_⟩
    refine ⟨by omega, by kernel_rfl, ?_⟩
    repeat refine ⟨by first | omega | with_reducible assumption | with_reducible rfl, ?_⟩
    refine ⟨?_, by omega⟩
    rw [rn_made hs8, show (i + 1).toNat = i.toNat + 1 by omega, itN, ← h2]; rfl
  · repeat refine ⟨by first | omega | with_reducible assumption | with_reducible rfl, ?_⟩
    intro q' e
    repeat refine ⟨by first | omega | with_reducible assumption | with_reducible rfl, ?_⟩
    refine ⟨?_, by omega⟩
    rw [e, show (j + 1).toNat = j.toNat + 1 by omega, itN, adS, ← h5, h2, show i.toNat = 64 by omega]
  · exact ⟨by rw [h5, show j.toNat = 8 by omega, cmpF], cmpF_length hh⟩
noncomputable def con_through : Con Xp.P FMp := ⟨134, sg_through, pr_through, ps_through, vc_ok (La := la_through) (Ca := ca_through) 300 (fn := Go.Proofs.Try.f134) (by kernel_rfl) (c := cd_through) (by kernel_rfl) (by kernel_rfl) (by kernel_rfl) (by kernel_rfl) (fun ⟨⟨hv, ⟨⟩⟩, ⟨⟨kb, kl⟩, ⟨⟨A, ⟨b, c⟩⟩, ⟨⟩⟩⟩⟩ => vc_through hv kb kl A b c)⟩

end Go.Pw
end
section
/-
  Walks by computing. No condition.
-/
set_option linter.all false
set_option maxRecDepth 100000
set_option maxHeartbeats 1000000
namespace Go.Pw
open Go Go.Px Go.RowKit
theorem e8N_length (x : Int) : ∀ n, (itN (e8S x) n []).length = n
  | 0 => rfl
  | n + 1 => by rw [itN, e8S, List.length_append, e8N_length x n]; rfl
theorem BY1 : Go.Proofs.Try.prog.types[5].bytes = 1 := by kernel_rfl

noncomputable def cd_clone_bytes : Code := (Go.Proofs.Try.f141.body).getD .skip
def sg_clone_bytes : List Arg := [.one (.sli .u8)]
def pr_clone_bytes : SgT FMp sg_clone_bytes → List Prop
  | ((A, (b, c)), ()) => (fun (A : Option Addr) (b : List Int) (c : Nat) => ([b.length ≤ 140737488355000] : List Prop)) A b c
def ps_clone_bytes : SgT FMp sg_clone_bytes → PS FMp
  | ((A, (b, c)), ()) => (fun (A : Option Addr) (b : List Int) (c : Nat) => (⟨(Option Addr) × Nat, fun y => [.ad y.1], fun y => .v (.one (.sc 0 0 (b.length) y.2 false)), fun y => [.sl 0 (b.length) y.2 (zz .u8 (b) (b.length)) 5 1], fun y => [(b).length ≤ y.2]⟩ : PS FMp)) A b c
def la_clone_bytes : SgT FMp sg_clone_bytes → List (Nat × (SS FMp → HA FMp))
  | ((A, (b, c)), ()) => (fun (A : Option Addr) (b : List Int) (c : Nat) => ([] : List (Nat × (SS FMp → HA FMp)))) A b c
def ca_clone_bytes : SgT FMp sg_clone_bytes → List (Nat × (SS FMp → HA FMp))
  | ((A, (b, c)), ()) => (fun (A : Option Addr) (b : List Int) (c : Nat) => ([] : List (Nat × (SS FMp → HA FMp)))) A b c
theorem vc_clone_bytes (A : Option Addr) (b : List Int) (c : Nat) : Vc (vc (FM := FMp) Xp 8 [] (la_clone_bytes ((A, (b, c)), ())) (ca_clone_bytes ((A, (b, c)), ())) [] [] [.tmp 2] sg_clone_bytes pr_clone_bytes ps_clone_bytes cd_clone_bytes 300 ((A, (b, c)), ())) := by
  refine ⟨Eq.mpr (β := (A.isNone = true → b = []) → b.length ≤ (140737488355000 : Nat) → (A.isNone = true → ∃ (y : Option Addr × Nat), Value.slice none (0 : Nat) (0 : Nat) = Value.slice y.1 b.length y.2 ∧ y.1 = none ∧ b.length = (0 : Nat) ∧ y.2 = (0 : Nat) ∧ b = [] ∧ b.length = (0 : Nat) ∧ b.length ≤ y.2) ∧ (A.isNone = false → ∀ (b_1 : Nat), (0 : Nat) = (0 : Nat) ∧ (0 : Nat) = (0 : Nat) ∧ b.length = b.length ∧ ((0 : Nat) + b.length) * Proofs.Try.prog.types[(5 : Nat)].bytes ≤ (140737488355328 : Nat) ∧ ∀ (A : Option Addr) (q : Nat), (0 : Nat) + b.length ≤ q → ∃ (y : Option Addr × Nat), A = y.1 ∧ (0 : Nat) + b.length = b.length ∧ q = y.2 ∧ A = y.1 ∧ (0 : Nat) + b.length = b.length ∧ q = y.2 ∧ [] ++ b = b ∧ (0 : Nat) + b.length = b.length ∧ b.length ≤ y.2)) (by kernel_rfl) ?_⟩
  simp only [imin, imax, decide_eq_true_eq, decide_eq_false_iff_not, Prod.forall, Prod.exists, exists_eq_left', exists_eq_left, exists_and_left, exists_and_right, exists_eq_right, exists_eq, exists_eq', true_and, and_true, forall_const, exists_const, eq_self, Bool.not_eq_true, Bool.not_eq_eq_eq_not, Bool.not_true, Bool.not_false, Value.slice.injEq, Option.getD_some]
  intro hA hn
  refine ⟨fun h => ?_, fun h => ?_⟩
  · subst_vars; rw [hA h]; simp
  · refine ⟨by rw [BY1]; omega, fun q hq => ⟨by omega, by omega, rfl, by omega, by omega⟩⟩
noncomputable def con_clone_bytes : Con Xp.P FMp := ⟨141, sg_clone_bytes, pr_clone_bytes, ps_clone_bytes, vc_ok (La := la_clone_bytes) (Ca := ca_clone_bytes) 300 (fn := Go.Proofs.Try.f141) (by kernel_rfl) (c := cd_clone_bytes) (by kernel_rfl) (by kernel_rfl) (by kernel_rfl) (by kernel_rfl) (fun ⟨⟨A, ⟨b, c⟩⟩, ⟨⟩⟩ => vc_clone_bytes A b c)⟩
noncomputable def cd_padded : Code := (Go.Proofs.Try.f133.body).getD .skip
def sg_padded : List Arg := [.one (.sli .u8)]
def pr_padded : SgT FMp sg_padded → List Prop
  | ((A, (b, c)), ()) => (fun (A : Option Addr) (b : List Int) (c : Nat) => ([b.length ≤ 140737488355000] : List Prop)) A b c
def ps_padded : SgT FMp sg_padded → PS FMp
  | ((A, (b, c)), ()) => (fun (A : Option Addr) (b : List Int) (c : Nat) => (⟨(Option Addr) × Nat, fun y => [.ad y.1], fun y => .v (.one (.sc 0 0 ((padF b).length) y.2 false)), fun y => [.sl 0 ((padF b).length) y.2 (zz .u8 ((padF b)) ((padF b).length)) 5 1], fun y => [((padF b)).length ≤ y.2]⟩ : PS FMp)) A b c
def la_padded : SgT FMp sg_padded → List (Nat × (SS FMp → HA FMp))
  | ((A, (b, c)), ()) => (fun (A : Option Addr) (b : List Int) (c : Nat) => ([(2, fun S => ⟨(List Int) × (Option Addr) × Nat, fun y => [.ad y.2.1], fun n y => [(3, some (.v (.one (.sc n 0 (y.1.length) y.2.2 false))))], fun n y => S.m.set 1 (.sl n (y.1.length) y.2.2 (zz .u8 (y.1) (y.1.length)) 5 1), fun y => [y.1.length ≤ y.2.2, ∃ j, j ≤ padZ b.length ∧ y.1 = b ++ 128 :: List.replicate j 0], fun y => b.length + 1 + padZ b.length - y.1.length⟩), (6, fun S => ⟨Int × (List Int) × (Option Addr) × Nat, fun y => [.ad y.2.2.1], fun n y => [(3, some (.v (.one (.sc n 0 (y.2.1.length) y.2.2.2 false)))), (5, some (one (.int .i64 (y.1))))], fun n y => S.m.set 1 (.sl n (y.2.1.length) y.2.2.2 (zz .u8 (y.2.1) (y.2.1.length)) 5 1), fun y => [y.2.1.length ≤ y.2.2.2, -8 ≤ y.1, y.1 ≤ 56, y.1 % 8 = 0, y.2.1 = b ++ 128 :: List.replicate (padZ b.length) 0 ++ itN (e8S ((b.length : Int) * 8)) ((56 - y.1) / 8).toNat []], fun y => (y.1 + 8).toNat⟩)] : List (Nat × (SS FMp → HA FMp)))) A b c
def ca_padded : SgT FMp sg_padded → List (Nat × (SS FMp → HA FMp))
  | ((A, (b, c)), ()) => (fun (A : Option Addr) (b : List Int) (c : Nat) => ([] : List (Nat × (SS FMp → HA FMp)))) A b c
theorem vc_padded (A : Option Addr) (b : List Int) (c : Nat) : Vc (vc (FM := FMp) Xp 33 [con_clone_bytes] (la_padded ((A, (b, c)), ())) (ca_padded ((A, (b, c)), ())) [] [] [.tmp 2] sg_padded pr_padded ps_padded cd_padded 300 ((A, (b, c)), ())) := by
  refine ⟨Eq.mpr (β := (A.isNone = true → b = []) → b.length ≤ (140737488355000 : Nat) → b.length = b.length ∧ b.length ≤ (140737488355000 : Nat) ∧ ∀ (y : Option Addr × Nat), b.length = b.length → b.length ≤ y.2 → ∀ (b_1 : Nat), b.length = b.length ∧ y.2 = y.2 ∧ (1 : Nat) = (1 : Nat) ∧ (b.length + (1 : Nat)) * Proofs.Try.prog.types[(5 : Nat)].bytes ≤ (140737488355328 : Nat) ∧ ∀ (A : Option Addr) (q : Nat), b.length + (1 : Nat) ≤ q → (∃ (y : List Int × Option Addr × Nat), A = y.2.1 ∧ b.length + (1 : Nat) = y.1.length ∧ q = y.2.2 ∧ (1 : Nat) = (1 : Nat) ∧ (1 : Nat) = (1 : Nat) ∧ [(128 : Int)] = [(128 : Int)] ∧ (1 : Nat) = (1 : Nat) ∧ A = y.2.1 ∧ b.length + (1 : Nat) = y.1.length ∧ q = y.2.2 ∧ b ++ [(128 : Int)] = y.1 ∧ b.length + (1 : Nat) = y.1.length ∧ y.1.length ≤ y.2.2 ∧ ∃ (j : Nat), j ≤ padZ b.length ∧ y.1 = b ++ (128 : Int) :: List.replicate j (0 : Int)) ∧ ∀ (y : List Int × Option Addr × Nat), (1 : Nat) = (1 : Nat) → y.1.length = y.1.length → y.1.length ≤ y.2.2 → (∃ (j : Nat), j ≤ padZ b.length ∧ y.1 = b ++ (128 : Int) :: List.replicate j (0 : Int)) → (0 : Int) ≤ (↑y.1.length : Int) ∧ (0 : Int) < (64 : Int) ∧ ((!decide ((↑y.1.length : Int) % (64 : Int) = (56 : Int))) = true → ∀ (b_2 : Nat), y.1.length = y.1.length ∧ y.2.2 = y.2.2 ∧ (1 : Nat) = (1 : Nat) ∧ (y.1.length + (1 : Nat)) * Proofs.Try.prog.types[(5 : Nat)].bytes ≤ (140737488355328 : Nat) ∧ ∀ (A : Option Addr) (q : Nat), y.1.length + (1 : Nat) ≤ q → ∃ (y_1 : List Int × Option Addr × Nat), A = y_1.2.1 ∧ y.1.length + (1 : Nat) = y_1.1.length ∧ q = y_1.2.2 ∧ (1 : Nat) = (1 : Nat) ∧ (1 : Nat) = (1 : Nat) ∧ [(128 : Int)] = [(128 : Int)] ∧ (1 : Nat) = (1 : Nat) ∧ A = y_1.2.1 ∧ y.1.length + (1 : Nat) = y_1.1.length ∧ q = y_1.2.2 ∧ y.1 ++ [(0 : Int)] = y_1.1 ∧ y.1.length + (1 : Nat) = y_1.1.length ∧ y_1.1.length ≤ y_1.2.2 ∧ (∃ (j : Nat), j ≤ padZ b.length ∧ y_1.1 = b ++ (128 : Int) :: List.replicate j (0 : Int)) ∧ b.length + (1 : Nat) + padZ b.length - y_1.1.length < b.length + (1 : Nat) + padZ b.length - y.1.length) ∧ ((!decide ((↑y.1.length : Int) % (64 : Int) = (56 : Int))) = false → (∃ (y_1 : Int × List Int × Option Addr × Nat), y.2.1 = y_1.snd.2.1 ∧ y.1.length = y_1.2.1.length ∧ y.2.2 = y_1.snd.2.2 ∧ (56 : Int) = y_1.1 ∧ (1 : Nat) = (1 : Nat) ∧ (1 : Nat) = (1 : Nat) ∧ [(128 : Int)] = [(128 : Int)] ∧ (1 : Nat) = (1 : Nat) ∧ y.2.1 = y_1.snd.2.1 ∧ y.1.length = y_1.2.1.length ∧ y.2.2 = y_1.snd.2.2 ∧ y.1 = y_1.2.1 ∧ y.1.length = y_1.2.1.length ∧ y_1.2.1.length ≤ y_1.snd.2.2 ∧ (-8 : Int) ≤ y_1.1 ∧ y_1.1 ≤ (56 : Int) ∧ y_1.1 % (8 : Int) = (0 : Int) ∧ y_1.2.1 = b ++ (128 : Int) :: List.replicate (padZ b.length) (0 : Int) ++ itN (e8S ((↑b.length : Int) * (8 : Int))) (((56 : Int) - y_1.1) / (8 : Int)).toNat []) ∧ ∀ (y : Int × List Int × Option Addr × Nat), (1 : Nat) = (1 : Nat) → y.2.1.length = y.2.1.length → y.2.1.length ≤ y.snd.2.2 → (-8 : Int) ≤ y.1 → y.1 ≤ (56 : Int) → y.1 % (8 : Int) = (0 : Int) → y.2.1 = b ++ (128 : Int) :: List.replicate (padZ b.length) (0 : Int) ++ itN (e8S ((↑b.length : Int) * (8 : Int))) (((56 : Int) - y.1) / (8 : Int)).toNat [] → (decide ((0 : Int) ≤ y.1) = true → (0 : Int) ≤ y.1 ∧ ∀ (b_2 : Nat), y.2.1.length = y.2.1.length ∧ y.snd.2.2 = y.snd.2.2 ∧ (1 : Nat) = [IntKind.u8.wrap (shrV IntKind.u64 (IntKind.u64.wrap (IntKind.u64.wrap (↑b.length : Int) * (8 : Int))) y.1)].length ∧ (y.2.1.length + (1 : Nat)) * Proofs.Try.prog.types[(5 : Nat)].bytes ≤ (140737488355328 : Nat) ∧ ∀ (A : Option Addr) (q : Nat), y.2.1.length + (1 : Nat) ≤ q → (-9223372036854775808 : Int) ≤ y.1 - (8 : Int) ∧ y.1 - (8 : Int) ≤ (9223372036854775807 : Int) ∧ ∃ (y_1 : Int × List Int × Option Addr × Nat), A = y_1.snd.2.1 ∧ y.2.1.length + (1 : Nat) = y_1.2.1.length ∧ q = y_1.snd.2.2 ∧ y.1 - (8 : Int) = y_1.1 ∧ (1 : Nat) = (1 : Nat) ∧ (1 : Nat) = (1 : Nat) ∧ [(128 : Int)] = [(128 : Int)] ∧ (1 : Nat) = (1 : Nat) ∧ A = y_1.snd.2.1 ∧ y.2.1.length + (1 : Nat) = y_1.2.1.length ∧ q = y_1.snd.2.2 ∧ y.2.1 ++ [IntKind.u8.wrap (shrV IntKind.u64 (IntKind.u64.wrap (IntKind.u64.wrap (↑b.length : Int) * (8 : Int))) y.1)] = y_1.2.1 ∧ y.2.1.length + [IntKind.u8.wrap (shrV IntKind.u64 (IntKind.u64.wrap (IntKind.u64.wrap (↑b.length : Int) * (8 : Int))) y.1)].length = y_1.2.1.length ∧ y_1.2.1.length ≤ y_1.snd.2.2 ∧ (-8 : Int) ≤ y_1.1 ∧ y_1.1 ≤ (56 : Int) ∧ y_1.1 % (8 : Int) = (0 : Int) ∧ y_1.2.1 = b ++ (128 : Int) :: List.replicate (padZ b.length) (0 : Int) ++ itN (e8S ((↑b.length : Int) * (8 : Int))) (((56 : Int) - y_1.1) / (8 : Int)).toNat [] ∧ (y_1.1 + (8 : Int)).toNat < (y.1 + (8 : Int)).toNat) ∧ (decide ((0 : Int) ≤ y.1) = false → ∃ (y_1 : Option Addr × Nat), y.snd.2.1 = y_1.1 ∧ y.2.1.length = (padF b).length ∧ y.snd.2.2 = y_1.2 ∧ y.snd.2.1 = y_1.1 ∧ y.2.1.length = (padF b).length ∧ y.snd.2.2 = y_1.2 ∧ y.2.1 = padF b ∧ y.2.1.length = (padF b).length ∧ (padF b).length ≤ y_1.2))) (by kernel_rfl) ?_⟩
  simp only [imin, imax, decide_eq_true_eq, decide_eq_false_iff_not, Prod.forall, Prod.exists, exists_eq_left', exists_eq_left, exists_and_left, exists_and_right, exists_eq_right, exists_eq, exists_eq', true_and, and_true, forall_const, exists_const, eq_self, Bool.not_eq_true, Bool.not_eq_eq_eq_not, Bool.not_true, Bool.not_false, Value.slice.injEq, Option.getD_some]
  intro hA hn
  refine ⟨hn, fun c1 hc1 => ⟨by rw [BY1]; omega, fun q hq => ⟨⟨b ++ [128], by simp, by simp, rfl, by simp, by simp; omega, 0, Nat.zero_le _, by simp⟩, fun q cq hcq hj => ?_⟩⟩⟩
  obtain ⟨j, hj, hq⟩ := hj
  have hql : q.length = b.length + 1 + j := by rw [hq]; simp; omega
  have hz : padZ b.length < 64 := by unfold padZ; omega
  have hz2 : (b.length + 1 + padZ b.length) % 64 = 56 := by unfold padZ; omega
  refine ⟨by omega, by omega, fun h => ⟨by rw [BY1]; omega, fun c2 hc2 => ⟨q ++ [0], by simp, by simp, rfl, by simp, by simp; omega, ⟨j + 1, by omega, by rw [hq, List.replicate_succ']; simp⟩, by simp; omega⟩⟩, fun h => ?_⟩
  have hjz : j = padZ b.length := by omega
  subst hjz
  refine ⟨⟨56, q, rfl, rfl, rfl, rfl, rfl, hcq, by omega, by omega, by omega, by rw [hq]; simp [itN]⟩, fun i q cq hcq h1 h2 h3 h4 => ⟨fun h => ?_, fun h => ?_⟩⟩
  · have hl : q.length = b.length + 1 + padZ b.length + ((56 - i) / 8).toNat := by rw [h4]; simp [e8N_length]; omega
    have hw : IntKind.u64.wrap (IntKind.u64.wrap (b.length : Int) * 8) = (b.length : Int) * 8 := by rw [wrap64, wrap64]; omega
    refine ⟨by omega, rfl, by rw [BY1]; omega, fun c2 hc2 => ⟨by omega, by omega, i - 8, q ++ [_], by simp, rfl, by simp, rfl, by simp, by simp; omega, by omega, by omega, by omega, ?_, by omega⟩⟩
    rw [hw, show ((56 - (i - 8)) / 8).toNat = ((56 - i) / 8).toNat + 1 by omega, itN, e8S, show 8 * (7 - ((((56 - i) / 8).toNat : Nat) : Int)) = i by omega, h4]; simp
  · have hi : ((56 - i) / 8).toNat = 8 := by omega
    have e : q = padF b := by rw [h4, hi]; rfl
    subst e
    exact ⟨rfl, rfl, rfl, rfl, hcq⟩
noncomputable def con_padded : Con Xp.P FMp := ⟨133, sg_padded, pr_padded, ps_padded, vc_ok (La := la_padded) (Ca := ca_padded) 300 (fn := Go.Proofs.Try.f133) (by kernel_rfl) (c := cd_padded) (by kernel_rfl) (by kernel_rfl) (by kernel_rfl) (by kernel_rfl) (fun ⟨⟨A, ⟨b, c⟩⟩, ⟨⟩⟩ => vc_padded A b c)⟩
noncomputable def cd_rpadded : Code := (Go.Proofs.Try.f98.body).getD .skip
def sg_rpadded : List Arg := [.one (.sli .u8)]
def pr_rpadded : SgT FMp sg_rpadded → List Prop
  | ((A, (b, c)), ()) => (fun (A : Option Addr) (b : List Int) (c : Nat) => ([b.length ≤ 140737488355000] : List Prop)) A b c
def ps_rpadded : SgT FMp sg_rpadded → PS FMp
  | ((A, (b, c)), ()) => (fun (A : Option Addr) (b : List Int) (c : Nat) => (⟨(Option Addr) × Nat, fun y => [.ad y.1], fun y => .v (.one (.sc 0 0 ((padF b).length) y.2 false)), fun y => [.sl 0 ((padF b).length) y.2 (zz .u8 ((padF b)) ((padF b).length)) 5 1], fun y => [((padF b)).length ≤ y.2]⟩ : PS FMp)) A b c
def la_rpadded : SgT FMp sg_rpadded → List (Nat × (SS FMp → HA FMp))
  | ((A, (b, c)), ()) => (fun (A : Option Addr) (b : List Int) (c : Nat) => ([(2, fun S => ⟨(List Int) × (Option Addr) × Nat, fun y => [.ad y.2.1], fun n y => [(3, some (.v (.one (.sc n 0 (y.1.length) y.2.2 false))))], fun n y => S.m.set 1 (.sl n (y.1.length) y.2.2 (zz .u8 (y.1) (y.1.length)) 5 1), fun y => [y.1.length ≤ y.2.2, ∃ j, j ≤ padZ b.length ∧ y.1 = b ++ 128 :: List.replicate j 0], fun y => b.length + 1 + padZ b.length - y.1.length⟩), (6, fun S => ⟨Int × (List Int) × (Option Addr) × Nat, fun y => [.ad y.2.2.1], fun n y => [(3, some (.v (.one (.sc n 0 (y.2.1.length) y.2.2.2 false)))), (5, some (one (.int .i64 (y.1))))], fun n y => S.m.set 1 (.sl n (y.2.1.length) y.2.2.2 (zz .u8 (y.2.1) (y.2.1.length)) 5 1), fun y => [y.2.1.length ≤ y.2.2.2, -1 ≤ y.1, y.1 ≤ 7, y.2.1 = b ++ 128 :: List.replicate (padZ b.length) 0 ++ itN (e8S ((b.length : Int) * 8)) (7 - y.1).toNat []], fun y => (y.1 + 8).toNat⟩)] : List (Nat × (SS FMp → HA FMp)))) A b c
def ca_rpadded : SgT FMp sg_rpadded → List (Nat × (SS FMp → HA FMp))
  | ((A, (b, c)), ()) => (fun (A : Option Addr) (b : List Int) (c : Nat) => ([] : List (Nat × (SS FMp → HA FMp)))) A b c
theorem vc_rpadded (A : Option Addr) (b : List Int) (c : Nat) : Vc (vc (FM := FMp) Xp 36 [] (la_rpadded ((A, (b, c)), ())) (ca_rpadded ((A, (b, c)), ())) [] [] [.tmp 2] sg_rpadded pr_rpadded ps_rpadded cd_rpadded 300 ((A, (b, c)), ())) := by
  refine ⟨Eq.mpr (β := (A.isNone = true → b = []) → b.length ≤ (140737488355000 : Nat) → ∀ (b_1 : Nat), (0 : Nat) = (0 : Nat) ∧ (0 : Nat) = (0 : Nat) ∧ b.length = b.length ∧ ((0 : Nat) + b.length) * Proofs.Try.prog.types[(5 : Nat)].bytes ≤ (140737488355328 : Nat) ∧ ∀ (A : Option Addr) (q : Nat), (0 : Nat) + b.length ≤ q → ∀ (b_2 : Nat), (0 : Nat) + b.length = (0 : Nat) + b.length ∧ q = q ∧ (1 : Nat) = (1 : Nat) ∧ ((0 : Nat) + b.length + (1 : Nat)) * Proofs.Try.prog.types[(5 : Nat)].bytes ≤ (140737488355328 : Nat) ∧ ∀ (A : Option Addr) (q : Nat), (0 : Nat) + b.length + (1 : Nat) ≤ q → (∃ (y : List Int × Option Addr × Nat), A = y.2.1 ∧ (0 : Nat) + b.length + (1 : Nat) = y.1.length ∧ q = y.2.2 ∧ (1 : Nat) = (1 : Nat) ∧ (1 : Nat) = (1 : Nat) ∧ [(128 : Int)] = [(128 : Int)] ∧ (1 : Nat) = (1 : Nat) ∧ A = y.2.1 ∧ (0 : Nat) + b.length + (1 : Nat) = y.1.length ∧ q = y.2.2 ∧ [] ++ b ++ [(128 : Int)] = y.1 ∧ (0 : Nat) + b.length + (1 : Nat) = y.1.length ∧ y.1.length ≤ y.2.2 ∧ ∃ (j : Nat), j ≤ padZ b.length ∧ y.1 = b ++ (128 : Int) :: List.replicate j (0 : Int)) ∧ ∀ (y : List Int × Option Addr × Nat), (1 : Nat) = (1 : Nat) → y.1.length = y.1.length → y.1.length ≤ y.2.2 → (∃ (j : Nat), j ≤ padZ b.length ∧ y.1 = b ++ (128 : Int) :: List.replicate j (0 : Int)) → (0 : Int) ≤ (↑y.1.length : Int) ∧ (0 : Int) < (64 : Int) ∧ ((!decide ((↑y.1.length : Int) % (64 : Int) = (56 : Int))) = true → ∀ (b_3 : Nat), y.1.length = y.1.length ∧ y.2.2 = y.2.2 ∧ (1 : Nat) = (1 : Nat) ∧ (y.1.length + (1 : Nat)) * Proofs.Try.prog.types[(5 : Nat)].bytes ≤ (140737488355328 : Nat) ∧ ∀ (A : Option Addr) (q : Nat), y.1.length + (1 : Nat) ≤ q → ∃ (y_1 : List Int × Option Addr × Nat), A = y_1.2.1 ∧ y.1.length + (1 : Nat) = y_1.1.length ∧ q = y_1.2.2 ∧ (1 : Nat) = (1 : Nat) ∧ (1 : Nat) = (1 : Nat) ∧ [(128 : Int)] = [(128 : Int)] ∧ (1 : Nat) = (1 : Nat) ∧ A = y_1.2.1 ∧ y.1.length + (1 : Nat) = y_1.1.length ∧ q = y_1.2.2 ∧ y.1 ++ [(0 : Int)] = y_1.1 ∧ y.1.length + (1 : Nat) = y_1.1.length ∧ y_1.1.length ≤ y_1.2.2 ∧ (∃ (j : Nat), j ≤ padZ b.length ∧ y_1.1 = b ++ (128 : Int) :: List.replicate j (0 : Int)) ∧ b.length + (1 : Nat) + padZ b.length - y_1.1.length < b.length + (1 : Nat) + padZ b.length - y.1.length) ∧ ((!decide ((↑y.1.length : Int) % (64 : Int) = (56 : Int))) = false → (∃ (y_1 : Int × List Int × Option Addr × Nat), y.2.1 = y_1.snd.2.1 ∧ y.1.length = y_1.2.1.length ∧ y.2.2 = y_1.snd.2.2 ∧ (7 : Int) = y_1.1 ∧ (1 : Nat) = (1 : Nat) ∧ (1 : Nat) = (1 : Nat) ∧ [(128 : Int)] = [(128 : Int)] ∧ (1 : Nat) = (1 : Nat) ∧ y.2.1 = y_1.snd.2.1 ∧ y.1.length = y_1.2.1.length ∧ y.2.2 = y_1.snd.2.2 ∧ y.1 = y_1.2.1 ∧ y.1.length = y_1.2.1.length ∧ y_1.2.1.length ≤ y_1.snd.2.2 ∧ (-1 : Int) ≤ y_1.1 ∧ y_1.1 ≤ (7 : Int) ∧ y_1.2.1 = b ++ (128 : Int) :: List.replicate (padZ b.length) (0 : Int) ++ itN (e8S ((↑b.length : Int) * (8 : Int))) ((7 : Int) - y_1.1).toNat []) ∧ ∀ (y : Int × List Int × Option Addr × Nat), (1 : Nat) = (1 : Nat) → y.2.1.length = y.2.1.length → y.2.1.length ≤ y.snd.2.2 → (-1 : Int) ≤ y.1 → y.1 ≤ (7 : Int) → y.2.1 = b ++ (128 : Int) :: List.replicate (padZ b.length) (0 : Int) ++ itN (e8S ((↑b.length : Int) * (8 : Int))) ((7 : Int) - y.1).toNat [] → (decide ((0 : Int) ≤ y.1) = true → (-9223372036854775808 : Int) ≤ (8 : Int) * y.1 ∧ (8 : Int) * y.1 ≤ (9223372036854775807 : Int) ∧ (0 : Int) ≤ IntKind.u64.wrap ((8 : Int) * y.1) ∧ ∀ (b_3 : Nat), y.2.1.length = y.2.1.length ∧ y.snd.2.2 = y.snd.2.2 ∧ (1 : Nat) = [IntKind.u8.wrap (shrV IntKind.u64 (IntKind.u64.wrap (IntKind.u64.wrap (↑b.length : Int) * (8 : Int))) (IntKind.u64.wrap ((8 : Int) * y.1)))].length ∧ (y.2.1.length + (1 : Nat)) * Proofs.Try.prog.types[(5 : Nat)].bytes ≤ (140737488355328 : Nat) ∧ ∀ (A : Option Addr) (q : Nat), y.2.1.length + (1 : Nat) ≤ q → (-9223372036854775808 : Int) ≤ y.1 - (1 : Int) ∧ y.1 - (1 : Int) ≤ (9223372036854775807 : Int) ∧ ∃ (y_1 : Int × List Int × Option Addr × Nat), A = y_1.snd.2.1 ∧ y.2.1.length + (1 : Nat) = y_1.2.1.length ∧ q = y_1.snd.2.2 ∧ y.1 - (1 : Int) = y_1.1 ∧ (1 : Nat) = (1 : Nat) ∧ (1 : Nat) = (1 : Nat) ∧ [(128 : Int)] = [(128 : Int)] ∧ (1 : Nat) = (1 : Nat) ∧ A = y_1.snd.2.1 ∧ y.2.1.length + (1 : Nat) = y_1.2.1.length ∧ q = y_1.snd.2.2 ∧ y.2.1 ++ [IntKind.u8.wrap (shrV IntKind.u64 (IntKind.u64.wrap (IntKind.u64.wrap (↑b.length : Int) * (8 : Int))) (IntKind.u64.wrap ((8 : Int) * y.1)))] = y_1.2.1 ∧ y.2.1.length + [IntKind.u8.wrap (shrV IntKind.u64 (IntKind.u64.wrap (IntKind.u64.wrap (↑b.length : Int) * (8 : Int))) (IntKind.u64.wrap ((8 : Int) * y.1)))].length = y_1.2.1.length ∧ y_1.2.1.length ≤ y_1.snd.2.2 ∧ (-1 : Int) ≤ y_1.1 ∧ y_1.1 ≤ (7 : Int) ∧ y_1.2.1 = b ++ (128 : Int) :: List.replicate (padZ b.length) (0 : Int) ++ itN (e8S ((↑b.length : Int) * (8 : Int))) ((7 : Int) - y_1.1).toNat [] ∧ (y_1.1 + (8 : Int)).toNat < (y.1 + (8 : Int)).toNat) ∧ (decide ((0 : Int) ≤ y.1) = false → ∃ (y_1 : Option Addr × Nat), y.snd.2.1 = y_1.1 ∧ y.2.1.length = (padF b).length ∧ y.snd.2.2 = y_1.2 ∧ y.snd.2.1 = y_1.1 ∧ y.2.1.length = (padF b).length ∧ y.snd.2.2 = y_1.2 ∧ y.2.1 = padF b ∧ y.2.1.length = (padF b).length ∧ (padF b).length ≤ y_1.2))) (by kernel_rfl) ?_⟩
  simp only [imin, imax, decide_eq_true_eq, decide_eq_false_iff_not, Prod.forall, Prod.exists, exists_eq_left', exists_eq_left, exists_and_left, exists_and_right, exists_eq_right, exists_eq, exists_eq', true_and, and_true, forall_const, exists_const, eq_self, Bool.not_eq_true, Bool.not_eq_eq_eq_not, Bool.not_true, Bool.not_false, Value.slice.injEq, Option.getD_some]
  intro hA hn
  refine ⟨by rw [BY1]; omega, fun c0 hc0 => ⟨by rw [BY1]; omega, fun q hq => ⟨⟨b ++ [128], by simp, by simp, rfl, by simp, by simp; omega, 0, Nat.zero_le _, by simp⟩, fun q cq hcq hj => ?_⟩⟩⟩
  obtain ⟨j, hj, hq⟩ := hj
  have hql : q.length = b.length + 1 + j := by rw [hq]; simp; omega
  have hz : padZ b.length < 64 := by unfold padZ; omega
  have hz2 : (b.length + 1 + padZ b.length) % 64 = 56 := by unfold padZ; omega
  refine ⟨by omega, by omega, fun h => ⟨by rw [BY1]; omega, fun c2 hc2 => ⟨q ++ [0], by simp, by simp, rfl, by simp, by simp; omega, ⟨j + 1, by omega, by rw [hq, List.replicate_succ']; simp⟩, by simp; omega⟩⟩, fun h => ?_⟩
  have hjz : j = padZ b.length := by omega
  subst hjz
  refine ⟨⟨7, q, rfl, rfl, rfl, rfl, rfl, hcq, by omega, by omega, by rw [hq]; simp [itN]⟩, fun i q cq hcq h1 h2  h4 => ⟨fun h => ?_, fun h => ?_⟩⟩
  · have hl : q.length = b.length + 1 + padZ b.length + (7 - i).toNat := by rw [h4]; simp [e8N_length]; omega
    have hw : IntKind.u64.wrap (IntKind.u64.wrap (b.length : Int) * 8) = (b.length : Int) * 8 := by rw [wrap64, wrap64]; omega
    have hw2 : IntKind.u64.wrap (8 * i) = 8 * i := by rw [wrap64]; omega
    refine ⟨by omega, by omega, wrap_nn _, rfl, by rw [BY1]; omega, fun c2 hc2 => ⟨by omega, by omega, i - 1, q ++ [_], by simp, rfl, by simp, rfl, by simp, by simp; omega, by omega, by omega, ?_, by omega⟩⟩
    rw [hw, hw2, show (7 - (i - 1)).toNat = (7 - i).toNat + 1 by omega, itN, e8S, show 7 - (((7 - i).toNat : Nat) : Int) = i by omega, h4]; simp
  · have hi : (7 - i).toNat = 8 := by omega
    have e : q = padF b := by rw [h4, hi]; rfl
    subst e
    exact ⟨rfl, rfl, rfl, rfl, hcq⟩
noncomputable def con_rpadded : Con Xp.P FMp := ⟨98, sg_rpadded, pr_rpadded, ps_rpadded, vc_ok (La := la_rpadded) (Ca := ca_rpadded) 300 (fn := Go.Proofs.Try.f98) (by kernel_rfl) (c := cd_rpadded) (by kernel_rfl) (by kernel_rfl) (by kernel_rfl) (by kernel_rfl) (fun ⟨⟨A, ⟨b, c⟩⟩, ⟨⟩⟩ => vc_rpadded A b c)⟩

end Go.Pw
end
section
/-
  Walks by computing. No condition.
-/
set_option linter.all false
set_option maxRecDepth 100000
set_option maxHeartbeats 1000000
namespace Go.Pw
open Go Go.Px Go.RowKit

def la_i (S : SS FMp) (t : Nat) : Int := match lookS S.T t with
  | some (.v (.one (.xv (.int _ i)))) => i
  | _ => 0
def la_l (S : SS FMp) (id : Nat) : List Int := match pcAt S.m id with
  | some (_, p) => match p.ce with
    | [.b (.iz _ l _)] => l
    | _ => []
  | none => []
attribute [local irreducible] padF hnS cmpF spF shaF hN ouS itN
set_option maxHeartbeats 4000000

noncomputable def cd_sum : Code := (Go.Proofs.Try.f110.body).getD .skip
def sg_sum : List Arg := [.one (.sli .u8)]
def pr_sum : SgT FMp sg_sum → List Prop
  | ((A, (b, c)), ()) => (fun (A : Option Addr) (b : List Int) (c : Nat) => ([b.length ≤ 140737488355000] : List Prop)) A b c
def ps_sum : SgT FMp sg_sum → PS FMp
  | ((A, (b, c)), ()) => (fun (A : Option Addr) (b : List Int) (c : Nat) => (⟨Unit, fun y => [], fun y => .v (.ag (zz .u8 (shaF b) 32)), fun y => [], fun y => [(shaF b).length = 32]⟩ : PS FMp)) A b c
def la_sum : SgT FMp sg_sum → List (Nat × (SS FMp → HA FMp))
  | ((A, (b, c)), ()) => (fun (A : Option Addr) (b : List Int) (c : Nat) => ([(3, fun S => ⟨Nat × (List Int) × (List Int) × (Option Addr) × Nat, fun y => [.ad y.2.2.2.1], fun n y => [(5, some (.v (.one (.sc n 0 (y.2.1.length) y.2.2.2.2 false))))], fun n y => (.rd n (zz .u8 y.2.1 y.2.1.length)) :: setId (S.m.drop 1) 3 (zz .u32 y.2.2.1 8), fun y => [y.2.1.length ≤ y.2.2.2.2, y.2.1 = (padF b).drop (64 * y.1), 64 * y.1 ≤ (padF b).length, y.2.2.1 = itN (hnS (padF b)) y.1 H256], fun y => y.2.1.length⟩), (8, fun S => ⟨Int × (List Int), fun y => [], fun n y => [(28, some (one (.int .i64 (y.1))))], fun n y => setId S.m 6 (zz .u8 y.2 32), fun y => [0 ≤ y.1, y.1 ≤ 8, y.2 = itN (ouS (la_l S 3)) (4 * y.1.toNat) (List.replicate 32 0)], fun y => (8 - y.1).toNat⟩), (11, fun S => ⟨Int × (List Int), fun y => [], fun n y => [(32, some (one (.int .i64 (y.1))))], fun n y => setId S.m 6 (zz .u8 y.2 32), fun y => [0 ≤ y.1, y.1 ≤ 4, y.2 = itN (ouS (la_l S 3)) (4 * (la_i S 28).toNat + y.1.toNat) (List.replicate 32 0)], fun y => (4 - y.1).toNat⟩)] : List (Nat × (SS FMp → HA FMp)))) A b c
def ca_sum : SgT FMp sg_sum → List (Nat × (SS FMp → HA FMp))
  | ((A, (b, c)), ()) => (fun (A : Option Addr) (b : List Int) (c : Nat) => ([] : List (Nat × (SS FMp → HA FMp)))) A b c
theorem vc_sum (A : Option Addr) (b : List Int) (c : Nat) : Vc (vc (FM := FMp) Xp 49 [con_factors, con_first, con_padded, con_through] (la_sum ((A, (b, c)), ())) (ca_sum ((A, (b, c)), ())) [] [] [.cell 2 40] sg_sum pr_sum ps_sum cd_sum 300 ((A, (b, c)), ())) := by
  refine ⟨Eq.mpr (β := (A.isNone = true → b = []) → b.length ≤ (140737488355000 : Nat) → ∀ (b_1 : Nat) (y : Unit), (64 : Nat) = (64 : Nat) → (64 : Nat) = (64 : Nat) → ∀ (y : Unit), (8 : Nat) = (8 : Nat) → (8 : Nat) = (8 : Nat) → ∀ (b_2 b_3 : Nat), b.length = b.length ∧ b.length ≤ (140737488355000 : Nat) ∧ ∀ (y : Option Addr × Nat), (padF b).length = (padF b).length → (padF b).length ≤ y.2 → (∃ (y_1 : Nat × List Int × List Int × Option Addr × Nat), y.1 = y_1.snd.snd.2.1 ∧ (padF b).length = y_1.2.1.length ∧ y.2 = y_1.snd.snd.2.2 ∧ y.1 = y_1.snd.snd.2.1 ∧ padF b = y_1.2.1 ∧ (padF b).length = y_1.2.1.length ∧ H256 = y_1.snd.2.1 ∧ (8 : Nat) = (8 : Nat) ∧ K256 = K256 ∧ (64 : Nat) = (64 : Nat) ∧ List.replicate (32 : Nat) (0 : Int) = List.replicate (32 : Nat) (0 : Int) ∧ (32 : Nat) = (32 : Nat) ∧ y_1.2.1.length ≤ y_1.snd.snd.2.2 ∧ y_1.2.1 = List.drop ((64 : Nat) * y_1.1) (padF b) ∧ (64 : Nat) * y_1.1 ≤ (padF b).length ∧ y_1.snd.2.1 = itN (hnS (padF b)) y_1.1 H256) ∧ ∀ (y : Nat × List Int × List Int × Option Addr × Nat), y.2.1.length = y.2.1.length → y.snd.2.1.length = (8 : Nat) → (64 : Nat) = (64 : Nat) → (32 : Nat) = (32 : Nat) → y.2.1.length ≤ y.snd.snd.2.2 → y.2.1 = List.drop ((64 : Nat) * y.1) (padF b) → (64 : Nat) * y.1 ≤ (padF b).length → y.snd.2.1 = itN (hnS (padF b)) y.1 H256 → (decide ((0 : Int) < (↑y.2.1.length : Int)) = true → (0 : Int) ≤ (64 : Int) ∧ (64 : Int) ≤ (64 : Int) ∧ (64 : Int) ≤ (↑y.snd.snd.2.2 : Int) ∧ (64 : Nat) = (64 : Nat) ∧ (64 : Nat) ≤ y.2.1.length ∧ K256 = K256 ∧ (List.take (64 : Nat) (List.drop (0 : Nat) y.2.1)).length = (64 : Nat) ∧ ∀ (y_1 : Unit), (cmpF y.snd.2.1 (List.take (64 : Nat) (List.drop (0 : Nat) y.2.1))).length = (8 : Nat) → (cmpF y.snd.2.1 (List.take (64 : Nat) (List.drop (0 : Nat) y.2.1))).length = (8 : Nat) → (0 : Int) ≤ (64 : Int) ∧ (64 : Int) ≤ (↑y.2.1.length : Int) ∧ (↑y.2.1.length : Int) ≤ (↑y.2.1.length : Int) ∧ (↑y.2.1.length : Int) ≤ (↑y.snd.snd.2.2 : Int) ∧ ∃ (y_2 : Nat × List Int × List Int × Option Addr × Nat), slA y.snd.snd.2.1 (64 : Nat) (↑y.2.1.length : Int).toNat (1 : Nat) = y_2.snd.snd.2.1 ∧ (↑y.2.1.length : Int).toNat - (64 : Nat) = y_2.2.1.length ∧ (↑y.2.1.length : Int).toNat - (64 : Nat) = y_2.snd.snd.2.2 ∧ (64 : Nat) + ((↑y.2.1.length : Int).toNat - (64 : Nat)) ≤ y.2.1.length ∧ slA y.snd.snd.2.1 (64 : Nat) (↑y.2.1.length : Int).toNat (1 : Nat) = y_2.snd.snd.2.1 ∧ List.take ((↑y.2.1.length : Int).toNat - (64 : Nat)) (List.drop (64 : Nat) y.2.1) = y_2.2.1 ∧ (↑y.2.1.length : Int).toNat - (64 : Nat) = y_2.2.1.length ∧ cmpF y.snd.2.1 (List.take (64 : Nat) (List.drop (0 : Nat) y.2.1)) = y_2.snd.2.1 ∧ (8 : Nat) = (8 : Nat) ∧ K256 = K256 ∧ (64 : Nat) = (64 : Nat) ∧ List.replicate (32 : Nat) (0 : Int) = List.replicate (32 : Nat) (0 : Int) ∧ (32 : Nat) = (32 : Nat) ∧ y_2.2.1.length ≤ y_2.snd.snd.2.2 ∧ y_2.2.1 = List.drop ((64 : Nat) * y_2.1) (padF b) ∧ (64 : Nat) * y_2.1 ≤ (padF b).length ∧ y_2.snd.2.1 = itN (hnS (padF b)) y_2.1 H256 ∧ y_2.2.1.length < y.2.1.length) ∧ (decide ((0 : Int) < (↑y.2.1.length : Int)) = false → ∀ (b_4 : Nat), (∃ (y_1 : Int × List Int), (0 : Int) = y_1.1 ∧ List.replicate (32 : Nat) (0 : Int) = y_1.2 ∧ (32 : Nat) = (32 : Nat) ∧ y.2.1 = y.2.1 ∧ y.2.1.length = y.2.1.length ∧ y.snd.2.1 = y.snd.2.1 ∧ (8 : Nat) = (8 : Nat) ∧ K256 = K256 ∧ (64 : Nat) = (64 : Nat) ∧ List.replicate (32 : Nat) (0 : Int) = List.replicate (32 : Nat) (0 : Int) ∧ (32 : Nat) = (32 : Nat) ∧ (0 : Int) ≤ y_1.1 ∧ y_1.1 ≤ (8 : Int) ∧ y_1.2 = itN (ouS y.snd.2.1) ((4 : Nat) * y_1.1.toNat) (List.replicate (32 : Nat) (0 : Int))) ∧ ∀ (y_1 : Int × List Int), y_1.2.length = (32 : Nat) → y.2.1.length = y.2.1.length → y.snd.2.1.length = (8 : Nat) → (64 : Nat) = (64 : Nat) → (32 : Nat) = (32 : Nat) → (0 : Int) ≤ y_1.1 → y_1.1 ≤ (8 : Int) → y_1.2 = itN (ouS y.snd.2.1) ((4 : Nat) * y_1.1.toNat) (List.replicate (32 : Nat) (0 : Int)) → (decide (y_1.1 < (8 : Int)) = true → (0 : Int) ≤ y_1.1 ∧ y_1.1 < (8 : Int) ∧ y_1.1.toNat < (8 : Nat) ∧ (∃ (y_2 : Int × List Int), (0 : Int) = y_2.1 ∧ y_1.2 = y_2.2 ∧ (32 : Nat) = (32 : Nat) ∧ y.2.1 = y.2.1 ∧ y.2.1.length = y.2.1.length ∧ y.snd.2.1 = y.snd.2.1 ∧ (8 : Nat) = (8 : Nat) ∧ K256 = K256 ∧ (64 : Nat) = (64 : Nat) ∧ List.replicate (32 : Nat) (0 : Int) = List.replicate (32 : Nat) (0 : Int) ∧ (32 : Nat) = (32 : Nat) ∧ (0 : Int) ≤ y_2.1 ∧ y_2.1 ≤ (4 : Int) ∧ y_2.2 = itN (ouS y.snd.2.1) ((4 : Nat) * y_1.1.toNat + y_2.1.toNat) (List.replicate (32 : Nat) (0 : Int))) ∧ ∀ (y_2 : Int × List Int), y_2.2.length = (32 : Nat) → y.2.1.length = y.2.1.length → y.snd.2.1.length = (8 : Nat) → (64 : Nat) = (64 : Nat) → (32 : Nat) = (32 : Nat) → (0 : Int) ≤ y_2.1 → y_2.1 ≤ (4 : Int) → y_2.2 = itN (ouS y.snd.2.1) ((4 : Nat) * y_1.1.toNat + y_2.1.toNat) (List.replicate (32 : Nat) (0 : Int)) → (decide (y_2.1 < (4 : Int)) = true → (-9223372036854775808 : Int) ≤ y_1.1 * (4 : Int) ∧ y_1.1 * (4 : Int) ≤ (9223372036854775807 : Int) ∧ (-9223372036854775808 : Int) ≤ y_1.1 * (4 : Int) + y_2.1 ∧ y_1.1 * (4 : Int) + y_2.1 ≤ (9223372036854775807 : Int) ∧ (-9223372036854775808 : Int) ≤ (8 : Int) * y_2.1 ∧ (8 : Int) * y_2.1 ≤ (9223372036854775807 : Int) ∧ (-9223372036854775808 : Int) ≤ (24 : Int) - (8 : Int) * y_2.1 ∧ (24 : Int) - (8 : Int) * y_2.1 ≤ (9223372036854775807 : Int) ∧ (0 : Int) ≤ (24 : Int) - (8 : Int) * y_2.1 ∧ (0 : Int) ≤ y_1.1 * (4 : Int) + y_2.1 ∧ y_1.1 * (4 : Int) + y_2.1 < (32 : Int) ∧ (y_1.1 * (4 : Int) + y_2.1).toNat < (32 : Nat) ∧ ∀ (q : List Int), q = y_2.2.set (y_1.1 * (4 : Int) + y_2.1).toNat (IntKind.u8.wrap (shrV IntKind.u32 (y.snd.2.1.getD y_1.1.toNat (0 : Int)) ((24 : Int) - (8 : Int) * y_2.1))) → (-9223372036854775808 : Int) ≤ y_2.1 + (1 : Int) ∧ y_2.1 + (1 : Int) ≤ (9223372036854775807 : Int) ∧ ∃ (y_3 : Int × List Int), y_2.1 + (1 : Int) = y_3.1 ∧ q = y_3.2 ∧ (32 : Nat) = (32 : Nat) ∧ y.2.1 = y.2.1 ∧ y.2.1.length = y.2.1.length ∧ y.snd.2.1 = y.snd.2.1 ∧ (8 : Nat) = (8 : Nat) ∧ K256 = K256 ∧ (64 : Nat) = (64 : Nat) ∧ List.replicate (32 : Nat) (0 : Int) = List.replicate (32 : Nat) (0 : Int) ∧ (32 : Nat) = (32 : Nat) ∧ (0 : Int) ≤ y_3.1 ∧ y_3.1 ≤ (4 : Int) ∧ y_3.2 = itN (ouS y.snd.2.1) ((4 : Nat) * y_1.1.toNat + y_3.1.toNat) (List.replicate (32 : Nat) (0 : Int)) ∧ ((4 : Int) - y_3.1).toNat < ((4 : Int) - y_2.1).toNat) ∧ (decide (y_2.1 < (4 : Int)) = false → (-9223372036854775808 : Int) ≤ y_1.1 + (1 : Int) ∧ y_1.1 + (1 : Int) ≤ (9223372036854775807 : Int) ∧ ∃ (y_3 : Int × List Int), y_1.1 + (1 : Int) = y_3.1 ∧ y_2.2 = y_3.2 ∧ (32 : Nat) = (32 : Nat) ∧ y.2.1 = y.2.1 ∧ y.2.1.length = y.2.1.length ∧ y.snd.2.1 = y.snd.2.1 ∧ (8 : Nat) = (8 : Nat) ∧ K256 = K256 ∧ (64 : Nat) = (64 : Nat) ∧ List.replicate (32 : Nat) (0 : Int) = List.replicate (32 : Nat) (0 : Int) ∧ (32 : Nat) = (32 : Nat) ∧ (0 : Int) ≤ y_3.1 ∧ y_3.1 ≤ (8 : Int) ∧ y_3.2 = itN (ouS y.snd.2.1) ((4 : Nat) * y_3.1.toNat) (List.replicate (32 : Nat) (0 : Int)) ∧ ((8 : Int) - y_3.1).toNat < ((8 : Int) - y_1.1).toNat)) ∧ (decide (y_1.1 < (8 : Int)) = false → ∃ (y : Unit), y_1.2 = shaF b ∧ (32 : Nat) = (32 : Nat) ∧ (shaF b).length = (32 : Nat)))) (by kernel_rfl) ?_⟩
  simp only [imin, imax, decide_eq_true_eq, decide_eq_false_iff_not, Prod.forall, Prod.exists, exists_eq_left', exists_eq_left, exists_and_left, exists_and_right, exists_eq_right, exists_eq, exists_eq', true_and, and_true, forall_const, exists_const, eq_self, Bool.not_eq_true, Bool.not_eq_eq_eq_not, Bool.not_true, Bool.not_false, Value.slice.injEq, Option.getD_some]
  intro hA hn
  have hp := padF_mod b
  have hple := padF_le b
  refine ⟨hn, fun c1 hc1 => ⟨⟨0, padF b, by with_reducible rfl, by with_reducible rfl, by with_reducible rfl, hc1, by rw [Nat.mul_zero, List.drop_zero], by omega, by rw [itN]⟩, fun j l hv cl hh h0 h1 h2 h3 => ?_⟩⟩
  have hll : l.length = (padF b).length - 64 * j := by rw [h1, List.length_drop]
  refine ⟨fun h => ⟨by omega, by omega, by omega, by omega, by simp; omega, fun hc _ => ⟨by omega, by omega, by omega, by omega, j + 1, l.drop 64, by simp, by simp; omega, ?_, by simp, by simp, by rw [h1, List.drop_drop]; congr 1, by omega, ?_, by simp; omega⟩⟩, fun h => ⟨⟨by omega, by omega, by rw [show 4 * Int.toNat 0 = 0 from rfl, itN]⟩, fun i q hq _ h4 h5 h6 => ⟨fun h7 => ⟨by omega, by omega, by omega, ⟨by omega, by omega, by rw [h6]; rfl⟩, fun k q hq _ h8 h9 h10 => ⟨fun h11 => ?_, fun h11 => ?_⟩⟩, fun h7 => ?_⟩⟩⟩
  · rw [List.take_of_length_le (by rw [List.length_drop]; omega)]
  · rw [itN, hnS, ← h3, ← h1, List.drop_zero]
  · repeat refine ⟨by first | omega | with_reducible assumption | with_reducible rfl, ?_⟩
    intro q' e
    repeat refine ⟨by first | omega | with_reducible assumption | with_reducible rfl, ?_⟩
    refine ⟨?_, by omega⟩
    rw [show 4 * i.toNat + (k + 1).toNat = (4 * i.toNat + k.toNat) + 1 by omega, itN, ouS, byt32, ← h10, e, show (i * 4 + k).toNat = 4 * i.toNat + k.toNat by omega, show (4 * i.toNat + k.toNat) / 4 = i.toNat by omega, show (((4 * i.toNat + k.toNat) % 4 : Nat) : Int) = k by omega]
  · repeat refine ⟨by first | omega | with_reducible assumption | with_reducible rfl, ?_⟩
    refine ⟨?_, by omega⟩
    rw [h10, show 4 * (i + 1).toNat = 4 * i.toNat + k.toNat by omega]
  · exact ⟨by rw [h6, show 4 * i.toNat = 32 by omega, shaF, hN, h3, show (padF b).length / 64 = j by omega], shaF_length b⟩
noncomputable def con_sum : Con Xp.P FMp := ⟨110, sg_sum, pr_sum, ps_sum, vc_ok (La := la_sum) (Ca := ca_sum) 300 (fn := Go.Proofs.Try.f110) (by kernel_rfl) (c := cd_sum) (by kernel_rfl) (by kernel_rfl) (by kernel_rfl) (by kernel_rfl) (fun ⟨⟨A, ⟨b, c⟩⟩, ⟨⟩⟩ => vc_sum A b c)⟩

end Go.Pw
end
section
/-
  Walks by computing. No condition.
-/
set_option linter.all false
set_option maxRecDepth 100000
set_option maxHeartbeats 1000000
namespace Go.Pw
open Go Go.Px Go.RowKit

def catL (ls : List (Option Addr × List Int × Nat)) : List Int := ls.flatMap fun s => s.2.1
theorem catL_take {ls : List (Option Addr × List Int × Nat)} {i : Nat} (h : i < ls.length) : catL (ls.take (i + 1)) = catL (ls.take i) ++ (ls.getD i (none, [], 0)).2.1 := by
  rw [List.take_succ, catL, List.flatMap_append, List.getD_eq_getElem?_getD, List.getElem?_eq_getElem h]
  simp [catL]
theorem catL_le (ls : List (Option Addr × List Int × Nat)) (i : Nat) : (catL (ls.take i)).length ≤ (catL ls).length := by
  have : ls = ls.take i ++ ls.drop i := (List.take_append_drop i ls).symm
  conv => rhs; rw [this]
  rw [catL, catL, List.flatMap_append, List.length_append]
  omega

noncomputable def cd_concat_bytes : Code := (Go.Proofs.Try.f111.body).getD .skip
def sg_concat_bytes : List Arg := [.one (.slr 4)]
def pr_concat_bytes : SgT FMp sg_concat_bytes → List Prop
  | ((A, (ls, c)), ()) => (fun (A : Option Addr) (ls : List (Option Addr × List Int × Nat)) (c : Nat) => ([(catL ls).length ≤ 140737488355328, ls.length ≤ 1000] : List Prop)) A ls c
def ps_concat_bytes : SgT FMp sg_concat_bytes → PS FMp
  | ((A, (ls, c)), ()) => (fun (A : Option Addr) (ls : List (Option Addr × List Int × Nat)) (c : Nat) => (⟨(Option Addr) × Nat, fun y => [.ad y.1], fun y => .v (.one (.sc 0 0 ((catL ls).length) y.2 false)), fun y => [.sl 0 ((catL ls).length) y.2 (zz .u8 ((catL ls)) ((catL ls).length)) 5 1], fun y => [((catL ls)).length ≤ y.2]⟩ : PS FMp)) A ls c
def la_concat_bytes : SgT FMp sg_concat_bytes → List (Nat × (SS FMp → HA FMp))
  | ((A, (ls, c)), ()) => (fun (A : Option Addr) (ls : List (Option Addr × List Int × Nat)) (c : Nat) => ([(3, fun S => ⟨Int × Int, fun y => [], fun n y => [(3, some (one (.int .i64 (y.2)))), (11, some (one (.int .i64 (y.1))))], fun n y => S.m, fun y => [0 ≤ y.1, y.1 ≤ ls.length, y.2 = (catL (ls.take y.1.toNat)).length], fun y => (ls.length - y.1).toNat⟩), (11, fun S => ⟨Int × (List Int) × (List Int) × (Option Addr) × Nat, fun y => [.ad y.2.2.2.1], fun n y => [(6, some (.v (.one (.sc n 0 y.2.1.length y.2.2.2.2 true)))), (27, some (one (.int .i64 (y.1))))], fun n y => [.sl n (y.2.1.length + y.2.2.1.length) y.2.2.2.2 (zz .u8 (y.2.1 ++ y.2.2.1) (y.2.1.length + y.2.2.1.length)) 5 1], fun y => [y.2.1.length + y.2.2.1.length ≤ y.2.2.2.2, 0 ≤ y.1, y.1 ≤ ls.length, y.2.1 = catL (ls.take y.1.toNat), y.2.2.1 = [] ∨ (y.1 = 0 ∧ y.2.2.1.length = (catL ls).length)], fun y => (ls.length - y.1).toNat⟩)] : List (Nat × (SS FMp → HA FMp)))) A ls c
def ca_concat_bytes : SgT FMp sg_concat_bytes → List (Nat × (SS FMp → HA FMp))
  | ((A, (ls, c)), ()) => (fun (A : Option Addr) (ls : List (Option Addr × List Int × Nat)) (c : Nat) => ([(13600006, fun S => ⟨(List Int) × (Option Addr) × Nat, fun y => [.ad y.2.1], fun n y => [(0, some (.v (.one (.sc n 0 0 y.2.2 true))))], fun n y => [.sl n (y.1.length) y.2.2 (zz .u8 (y.1) (y.1.length)) 5 1], fun y => [y.1.length ≤ y.2.2, y.1.length = (catL ls).length], fun y => 0⟩)] : List (Nat × (SS FMp → HA FMp)))) A ls c
theorem vc_concat_bytes (A : Option Addr) (ls : List (Option Addr × List Int × Nat)) (c : Nat) : Vc (vc (FM := FMp) Xp 36 [] (la_concat_bytes ((A, (ls, c)), ())) (ca_concat_bytes ((A, (ls, c)), ())) [] [135] [.tmp 2] sg_concat_bytes pr_concat_bytes ps_concat_bytes cd_concat_bytes 300 ((A, (ls, c)), ())) := by
  refine ⟨Eq.mpr (β := (∀ (a : Option Addr × List Int × Nat), a ∈ ls → True) → (catL ls).length ≤ (140737488355328 : Nat) → ls.length ≤ (1000 : Nat) → (∃ (y : Int × Int), (0 : Int) = y.2 ∧ (0 : Int) = y.1 ∧ (0 : Int) ≤ y.1 ∧ y.1 ≤ (↑ls.length : Int) ∧ y.2 = (↑(catL (List.take y.1.toNat ls)).length : Int)) ∧ ∀ (y : Int × Int), (0 : Int) ≤ y.1 → y.1 ≤ (↑ls.length : Int) → y.2 = (↑(catL (List.take y.1.toNat ls)).length : Int) → (decide (y.1 < (↑ls.length : Int)) = true → (0 : Int) ≤ y.1 ∧ y.1 < (↑ls.length : Int) ∧ y.1.toNat < ls.length ∧ y.1.toNat < ls.length ∧ (-9223372036854775808 : Int) ≤ y.2 + (↑(ls.getD y.1.toNat (((none, [], 0)) : (Option Addr × List Int × Nat))).2.1.length : Int) ∧ y.2 + (↑(ls.getD y.1.toNat (((none, [], 0)) : (Option Addr × List Int × Nat))).2.1.length : Int) ≤ (9223372036854775807 : Int) ∧ (decide (y.2 + (↑(ls.getD y.1.toNat (((none, [], 0)) : (Option Addr × List Int × Nat))).2.1.length : Int) < (0 : Int)) = true → False) ∧ (decide (y.2 + (↑(ls.getD y.1.toNat (((none, [], 0)) : (Option Addr × List Int × Nat))).2.1.length : Int) < (0 : Int)) = false → (-9223372036854775808 : Int) ≤ y.1 + (1 : Int) ∧ y.1 + (1 : Int) ≤ (9223372036854775807 : Int) ∧ ∃ (y_1 : Int × Int), y.2 + (↑(ls.getD y.1.toNat (((none, [], 0)) : (Option Addr × List Int × Nat))).2.1.length : Int) = y_1.2 ∧ y.1 + (1 : Int) = y_1.1 ∧ (0 : Int) ≤ y_1.1 ∧ y_1.1 ≤ (↑ls.length : Int) ∧ y_1.2 = (↑(catL (List.take y_1.1.toNat ls)).length : Int) ∧ ((↑ls.length : Int) - y_1.1).toNat < ((↑ls.length : Int) - y.1).toNat)) ∧ (decide (y.1 < (↑ls.length : Int)) = false → (decide (y.2 < (0 : Int)) = true → False) ∧ (decide (y.2 < (0 : Int)) = false → ((-9223372036854775808 : Int) ≤ (0 : Int) ∧ (0 : Int) ≤ (9223372036854775807 : Int) ∧ (-9223372036854775808 : Int) ≤ y.2 - (0 : Int) ∧ y.2 - (0 : Int) ≤ (9223372036854775807 : Int) ∧ (decide ((0 : Int) < y.2 - (0 : Int)) = true → (0 : Int) = (0 : Int) ∧ (0 : Int) = (0 : Int) ∧ (0 : Int) = (0 : Int) ∧ (0 : Int) < y.2 - (0 : Int) ∧ (y.2 - (0 : Int)).toNat * Proofs.Try.prog.types[(5 : Nat)].bytes ≤ (140737488355328 : Nat) ∧ ∀ (A : Option Addr) (q : Nat), (y.2 - (0 : Int)).toNat ≤ q → (0 : Int) ≤ (0 : Int) ∧ (0 : Int) ≤ (↑q : Int) ∧ ∃ (y_1 : List Int × Option Addr × Nat), A = y_1.2.1 ∧ (0 : Nat) = (0 : Nat) ∧ q = y_1.2.2 ∧ A = y_1.2.1 ∧ (y.2 - (0 : Int)).toNat = y_1.1.length ∧ q = y_1.2.2 ∧ List.replicate (y.2 - (0 : Int)).toNat (0 : Int) = y_1.1 ∧ (y.2 - (0 : Int)).toNat = y_1.1.length ∧ y_1.1.length ≤ y_1.2.2 ∧ y_1.1.length = (catL ls).length) ∧ (decide ((0 : Int) < y.2 - (0 : Int)) = false → ∃ (y : List Int × Option Addr × Nat), Value.slice none (0 : Nat) (0 : Nat) = Value.slice y.2.1 (0 : Nat) y.2.2 ∧ y.2.1 = none ∧ y.1.length = (0 : Nat) ∧ y.2.2 = (0 : Nat) ∧ y.1 = [] ∧ y.1.length = (0 : Nat) ∧ y.1.length ≤ y.2.2 ∧ y.1.length = (catL ls).length)) ∧ ∀ (y : List Int × Option Addr × Nat), y.1.length = y.1.length → y.1.length ≤ y.2.2 → y.1.length = (catL ls).length → (∃ (y_1 : Int × List Int × List Int × Option Addr × Nat), y.2.1 = y_1.snd.snd.2.1 ∧ (0 : Nat) = y_1.2.1.length ∧ y.2.2 = y_1.snd.snd.2.2 ∧ (0 : Int) = y_1.1 ∧ y.2.1 = y_1.snd.snd.2.1 ∧ y.1.length = y_1.2.1.length + y_1.snd.2.1.length ∧ y.2.2 = y_1.snd.snd.2.2 ∧ y.1 = y_1.2.1 ++ y_1.snd.2.1 ∧ y.1.length = y_1.2.1.length + y_1.snd.2.1.length ∧ y_1.2.1.length + y_1.snd.2.1.length ≤ y_1.snd.snd.2.2 ∧ (0 : Int) ≤ y_1.1 ∧ y_1.1 ≤ (↑ls.length : Int) ∧ y_1.2.1 = catL (List.take y_1.1.toNat ls) ∧ (y_1.snd.2.1 = [] ∨ y_1.1 = (0 : Int) ∧ y_1.snd.2.1.length = (catL ls).length)) ∧ ∀ (y : Int × List Int × List Int × Option Addr × Nat), (y.2.1 ++ y.snd.2.1).length = y.2.1.length + y.snd.2.1.length → y.2.1.length + y.snd.2.1.length ≤ y.snd.snd.2.2 → (0 : Int) ≤ y.1 → y.1 ≤ (↑ls.length : Int) → y.2.1 = catL (List.take y.1.toNat ls) → y.snd.2.1 = [] ∨ y.1 = (0 : Int) ∧ y.snd.2.1.length = (catL ls).length → (decide (y.1 < (↑ls.length : Int)) = true → (0 : Int) ≤ y.1 ∧ y.1 < (↑ls.length : Int) ∧ y.1.toNat < ls.length ∧ y.1.toNat < ls.length ∧ y.2.1.length ≤ y.2.1.length + y.snd.2.1.length ∧ (0 : Nat) + y.2.1.length ≤ y.2.1.length + y.snd.2.1.length ∧ y.snd.snd.2.2 = y.snd.snd.2.2 ∧ (ls.getD y.1.toNat (((none, [], 0)) : (Option Addr × List Int × Nat))).2.1.length = (ls.getD y.1.toNat (((none, [], 0)) : (Option Addr × List Int × Nat))).2.1.length ∧ (y.2.1.length + (ls.getD y.1.toNat (((none, [], 0)) : (Option Addr × List Int × Nat))).2.1.length) * Proofs.Try.prog.types[(5 : Nat)].bytes ≤ (140737488355328 : Nat) ∧ ∀ (A : Option Addr) (q : Nat), y.2.1.length + (ls.getD y.1.toNat (((none, [], 0)) : (Option Addr × List Int × Nat))).2.1.length ≤ q → (-9223372036854775808 : Int) ≤ y.1 + (1 : Int) ∧ y.1 + (1 : Int) ≤ (9223372036854775807 : Int) ∧ ∃ (y_1 : Int × List Int × List Int × Option Addr × Nat), A = y_1.snd.snd.2.1 ∧ y.2.1.length + (ls.getD y.1.toNat (((none, [], 0)) : (Option Addr × List Int × Nat))).2.1.length = y_1.2.1.length ∧ q = y_1.snd.snd.2.2 ∧ y.1 + (1 : Int) = y_1.1 ∧ A = y_1.snd.snd.2.1 ∧ y.2.1.length + (ls.getD y.1.toNat (((none, [], 0)) : (Option Addr × List Int × Nat))).2.1.length = y_1.2.1.length + y_1.snd.2.1.length ∧ q = y_1.snd.snd.2.2 ∧ List.take y.2.1.length (List.drop (0 : Nat) (y.2.1 ++ y.snd.2.1)) ++ (ls.getD y.1.toNat (((none, [], 0)) : (Option Addr × List Int × Nat))).2.1 = y_1.2.1 ++ y_1.snd.2.1 ∧ y.2.1.length + (ls.getD y.1.toNat (((none, [], 0)) : (Option Addr × List Int × Nat))).2.1.length = y_1.2.1.length + y_1.snd.2.1.length ∧ y_1.2.1.length + y_1.snd.2.1.length ≤ y_1.snd.snd.2.2 ∧ (0 : Int) ≤ y_1.1 ∧ y_1.1 ≤ (↑ls.length : Int) ∧ y_1.2.1 = catL (List.take y_1.1.toNat ls) ∧ (y_1.snd.2.1 = [] ∨ y_1.1 = (0 : Int) ∧ y_1.snd.2.1.length = (catL ls).length) ∧ ((↑ls.length : Int) - y_1.1).toNat < ((↑ls.length : Int) - y.1).toNat) ∧ (decide (y.1 < (↑ls.length : Int)) = false → ∃ (y_1 : Option Addr × Nat), y.snd.snd.2.1 = y_1.1 ∧ y.2.1.length = (catL ls).length ∧ y.snd.snd.2.2 = y_1.2 ∧ y.snd.snd.2.1 = y_1.1 ∧ y.2.1.length + y.snd.2.1.length = (catL ls).length ∧ y.snd.snd.2.2 = y_1.2 ∧ y.2.1 ++ y.snd.2.1 = catL ls ∧ y.2.1.length + y.snd.2.1.length = (catL ls).length ∧ (catL ls).length ≤ y_1.2)))) (by kernel_rfl) ?_⟩
  simp only [imin, imax, decide_eq_true_eq, decide_eq_false_iff_not, Prod.forall, Prod.exists, exists_eq_left', exists_eq_left, exists_and_left, exists_and_right, exists_eq_right, exists_eq, exists_eq', true_and, and_true, forall_const, exists_const, eq_self, Bool.not_eq_true, Bool.not_eq_eq_eq_not, Bool.not_true, Bool.not_false, Value.slice.injEq, Option.getD_some]
  intro hn hn2
  refine ⟨⟨by omega, by omega, by simp [catL]⟩, fun i z h0 h1 h2 => ⟨fun h => ?_, fun h => ?_⟩⟩
  · have hc0 : catL (ls.take (i.toNat + 1)) = catL (ls.take i.toNat) ++ (ls.getD i.toNat (none, [], 0)).2.1 := catL_take (by omega)
    have hc := congrArg List.length hc0
    have hc3 := catL_le ls (i.toNat + 1)
    rw [List.length_append] at hc
    exact ⟨h0, h, by omega, by omega, by omega, by omega, fun h' => by omega, fun _ => ⟨by omega, by omega, by omega, by omega, by rw [show (i + 1).toNat = i.toNat + 1 by omega]; omega, by omega⟩⟩
  · have hi : catL (ls.take i.toNat) = catL ls := by rw [List.take_of_length_le (by omega)]
    rw [hi] at h2
    refine ⟨fun h' => by omega, fun _ => ⟨⟨by omega, by omega, by omega, by omega, fun h3 => ⟨h3, by rw [BY1]; omega, fun q hq => ⟨by omega, by omega, List.replicate (z - 0).toNat 0, by simp, rfl, by simp, by simp; omega, by simp; omega⟩⟩, fun h3 => ⟨[], none, 0, ⟨rfl, rfl⟩, rfl, rfl, rfl, rfl, rfl, by simp, by simp; omega⟩⟩,
      fun r cq hr hrl => ⟨⟨0, [], rfl, rfl, r, by simp, by simp, by simp, by simpa using hr, by omega, by omega, by simp [catL], .inr ⟨rfl, hrl⟩⟩, fun i q r cq hqr hcq h3 h4 h5 h6 => ⟨fun h => ?_, fun h => ?_⟩⟩⟩⟩
    · have hc0 : catL (ls.take (i.toNat + 1)) = catL (ls.take i.toNat) ++ (ls.getD i.toNat (none, [], 0)).2.1 := catL_take (by omega)
      have hc := congrArg List.length hc0
      have hc3 := catL_le ls (i.toNat + 1)
      rw [List.length_append, ← h5] at hc
      refine ⟨h3, h, by omega, by omega, by omega, by omega, by rw [BY1]; omega, fun c hc => ⟨by omega, by omega, i + 1, q ++ (ls.getD i.toNat (none, [], 0)).2.1, by simp, rfl, [], by simp, by simp, by simp, by simp only [List.length_append, List.length_nil]; omega, by omega, by omega, ?_, .inl rfl, by omega⟩⟩
      rw [show (i + 1).toNat = i.toNat + 1 by omega, hc0, h5]
    · have e : q = catL ls := by rw [h5, List.take_of_length_le (by omega)]
      have er : r = [] := by
        rcases h6 with h6 | ⟨h6, h7⟩
        · exact h6
        · have : ls = [] := List.eq_nil_of_length_eq_zero (by omega)
          subst this
          exact List.eq_nil_of_length_eq_zero h7
      subst e er
      exact ⟨rfl, by simp, by simp, by simp, by simpa using hcq⟩
noncomputable def con_concat_bytes : Con Xp.P FMp := ⟨111, sg_concat_bytes, pr_concat_bytes, ps_concat_bytes, vc_ok (La := la_concat_bytes) (Ca := ca_concat_bytes) 300 (fn := Go.Proofs.Try.f111) (by kernel_rfl) (c := cd_concat_bytes) (by kernel_rfl) (by kernel_rfl) (by kernel_rfl) (by kernel_rfl) (fun ⟨⟨A, ⟨ls, c⟩⟩, ⟨⟩⟩ => vc_concat_bytes A ls c)⟩
noncomputable def cd_pair : Code := (Go.Proofs.Try.f95.body).getD .skip
def sg_pair : List Arg := [.ag [.arr .u8 32], .ag [.arr .u8 32]]
def pr_pair : SgT FMp sg_pair → List Prop
  | ((u, ()), ((v, ()), ())) => (fun (u v : List Int) => ([] : List Prop)) u v
def ps_pair : SgT FMp sg_pair → PS FMp
  | ((u, ()), ((v, ()), ())) => (fun (u v : List Int) => (⟨Unit, fun y => [], fun y => .v (.ag (zz .u8 (shaF ([1] ++ u ++ v)) 32)), fun y => [], fun y => [(shaF ([1] ++ u ++ v)).length = 32]⟩ : PS FMp)) u v
def la_pair : SgT FMp sg_pair → List (Nat × (SS FMp → HA FMp))
  | ((u, ()), ((v, ()), ())) => (fun (u v : List Int) => ([] : List (Nat × (SS FMp → HA FMp)))) u v
def ca_pair : SgT FMp sg_pair → List (Nat × (SS FMp → HA FMp))
  | ((u, ()), ((v, ()), ())) => (fun (u v : List Int) => ([] : List (Nat × (SS FMp → HA FMp)))) u v
theorem vc_pair (u v : List Int) : Vc (vc (FM := FMp) Xp 11 [con_concat_bytes, con_sum] (la_pair ((u, ()), ((v, ()), ()))) (ca_pair ((u, ()), ((v, ()), ()))) [] [] [.cell 4 40] sg_pair pr_pair ps_pair cd_pair 300 ((u, ()), ((v, ()), ()))) := by
  refine ⟨Eq.mpr (β := u.length = (32 : Nat) → v.length = (32 : Nat) → ∀ (b b_1 b_2 b_3 b_4 : Nat), (3 : Nat) = (3 : Nat) ∧ (3 : Nat) = [(some (Addr.mk b_3 (0 : Nat) none), [(1 : Int)], (1 : Nat)), (some (Addr.mk b (0 : Nat) none), u, (32 : Nat)), (some (Addr.mk b_1 (0 : Nat) none), v, (32 : Nat))].length ∧ (1 : Nat) = (1 : Nat) ∧ (32 : Nat) = (32 : Nat) ∧ (32 : Nat) = (32 : Nat) ∧ (catL [(some (Addr.mk b_3 (0 : Nat) none), [(1 : Int)], (1 : Nat)), (some (Addr.mk b (0 : Nat) none), u, (32 : Nat)), (some (Addr.mk b_1 (0 : Nat) none), v, (32 : Nat))]).length ≤ (140737488355328 : Nat) ∧ [(some (Addr.mk b_3 (0 : Nat) none), [(1 : Int)], (1 : Nat)), (some (Addr.mk b (0 : Nat) none), u, (32 : Nat)), (some (Addr.mk b_1 (0 : Nat) none), v, (32 : Nat))].length ≤ (1000 : Nat) ∧ ∀ (y : Option Addr × Nat), (catL [(some (Addr.mk b_3 (0 : Nat) none), [(1 : Int)], (1 : Nat)), (some (Addr.mk b (0 : Nat) none), u, (32 : Nat)), (some (Addr.mk b_1 (0 : Nat) none), v, (32 : Nat))]).length = (catL [(some (Addr.mk b_3 (0 : Nat) none), [(1 : Int)], (1 : Nat)), (some (Addr.mk b (0 : Nat) none), u, (32 : Nat)), (some (Addr.mk b_1 (0 : Nat) none), v, (32 : Nat))]).length → (catL [(some (Addr.mk b_3 (0 : Nat) none), [(1 : Int)], (1 : Nat)), (some (Addr.mk b (0 : Nat) none), u, (32 : Nat)), (some (Addr.mk b_1 (0 : Nat) none), v, (32 : Nat))]).length ≤ y.2 → (catL [(some (Addr.mk b_3 (0 : Nat) none), [(1 : Int)], (1 : Nat)), (some (Addr.mk b (0 : Nat) none), u, (32 : Nat)), (some (Addr.mk b_1 (0 : Nat) none), v, (32 : Nat))]).length = (catL [(some (Addr.mk b_3 (0 : Nat) none), [(1 : Int)], (1 : Nat)), (some (Addr.mk b (0 : Nat) none), u, (32 : Nat)), (some (Addr.mk b_1 (0 : Nat) none), v, (32 : Nat))]).length ∧ (catL [(some (Addr.mk b_3 (0 : Nat) none), [(1 : Int)], (1 : Nat)), (some (Addr.mk b (0 : Nat) none), u, (32 : Nat)), (some (Addr.mk b_1 (0 : Nat) none), v, (32 : Nat))]).length ≤ (140737488355000 : Nat) ∧ ∀ (y : Unit), (shaF (catL [(some (Addr.mk b_3 (0 : Nat) none), [(1 : Int)], (1 : Nat)), (some (Addr.mk b (0 : Nat) none), u, (32 : Nat)), (some (Addr.mk b_1 (0 : Nat) none), v, (32 : Nat))])).length = (32 : Nat) → (shaF (catL [(some (Addr.mk b_3 (0 : Nat) none), [(1 : Int)], (1 : Nat)), (some (Addr.mk b (0 : Nat) none), u, (32 : Nat)), (some (Addr.mk b_1 (0 : Nat) none), v, (32 : Nat))])).length = (32 : Nat) → ∃ (y : Unit), shaF (catL [(some (Addr.mk b_3 (0 : Nat) none), [(1 : Int)], (1 : Nat)), (some (Addr.mk b (0 : Nat) none), u, (32 : Nat)), (some (Addr.mk b_1 (0 : Nat) none), v, (32 : Nat))]) = shaF ([(1 : Int)] ++ u ++ v) ∧ (32 : Nat) = (32 : Nat) ∧ (shaF ([(1 : Int)] ++ u ++ v)).length = (32 : Nat)) (by kernel_rfl) ?_⟩
  simp only [imin, imax, decide_eq_true_eq, decide_eq_false_iff_not, Prod.forall, Prod.exists, exists_eq_left', exists_eq_left, exists_and_left, exists_and_right, exists_eq_right, exists_eq, exists_eq', true_and, and_true, forall_const, exists_const, eq_self, Bool.not_eq_true, Bool.not_eq_eq_eq_not, Bool.not_true, Bool.not_false, Value.slice.injEq, Option.getD_some]
  intro hu hv b0 b1 b2
  have e : ∀ (A B C : Option Addr) (p q r : Nat), catL [(A, [1], p), (B, u, q), (C, v, r)] = [1] ++ u ++ v := by intros; simp [catL]
  simp only [e]
  have hl : ([1] ++ u ++ v : List Int).length = 65 := by simp; omega
  refine ⟨rfl, by omega, by simp, fun c hc => ⟨by omega, fun h _ => ⟨trivial, h⟩⟩⟩
noncomputable def con_pair : Con Xp.P FMp := ⟨95, sg_pair, pr_pair, ps_pair, vc_ok (La := la_pair) (Ca := ca_pair) 300 (fn := Go.Proofs.Try.f95) (by kernel_rfl) (c := cd_pair) (by kernel_rfl) (by kernel_rfl) (by kernel_rfl) (by kernel_rfl) (fun ⟨⟨u, ⟨⟩⟩, ⟨⟨v, ⟨⟩⟩, ⟨⟩⟩⟩ => vc_pair u v)⟩

end Go.Pw
end
section
/-
  Walks by computing. No condition.
-/
set_option linter.all false
set_option maxRecDepth 100000
set_option maxHeartbeats 1000000
namespace Go.Pw
open Go Go.Px Go.RowKit
set_option maxHeartbeats 4000000
attribute [local irreducible] padF hnS cmpF spF shaF hN ouS itN

noncomputable def cd_block : Code := (Go.Proofs.Try.f99.body).getD .skip
def sg_block : List Arg := [.ag [.arr .u32 8], .one (.sli .u8)]
def pr_block : SgT FMp sg_block → List Prop
  | ((hv, ()), ((A, (b, c)), ())) => (fun (hv : List Int) (A : Option Addr) (b : List Int) (c : Nat) => ([b.length = 64, ∀ j, 0 ≤ b.getD j 0 ∧ b.getD j 0 < 256] : List Prop)) hv A b c
def ps_block : SgT FMp sg_block → PS FMp
  | ((hv, ()), ((A, (b, c)), ())) => (fun (hv : List Int) (A : Option Addr) (b : List Int) (c : Nat) => (⟨Unit, fun y => [], fun y => .v (.ag (zz .u32 (cmpF hv b) 8)), fun y => [], fun y => [(cmpF hv b).length = 8]⟩ : PS FMp)) hv A b c
def la_block : SgT FMp sg_block → List (Nat × (SS FMp → HA FMp))
  | ((hv, ()), ((A, (b, c)), ())) => (fun (hv : List Int) (A : Option Addr) (b : List Int) (c : Nat) => ([(4, fun S => ⟨Int × (List Int), fun y => [], fun n y => [(7, some (one (.int .i64 (y.1))))], fun n y => setId S.m 4 (zz .u32 y.2 64), fun y => [0 ≤ y.1, y.1 ≤ 16, y.2 = itN (wbS b) y.1.toNat (List.replicate 64 0)], fun y => (16 - y.1).toNat⟩), (8, fun S => ⟨Int × (List Int), fun y => [], fun n y => [(8, some (one (.int .i64 (y.1))))], fun n y => setId S.m 4 (zz .u32 y.2 64), fun y => [16 ≤ y.1, y.1 ≤ 64, y.2 = itN spS (y.1.toNat - 16) (spI b)], fun y => (64 - y.1).toNat⟩), (15, fun S => ⟨Int × (List Int), fun y => [], fun n y => [(12, some (one (.int .i64 (y.1))))], fun n y => setId S.m 5 (zz .u32 y.2 8), fun y => [0 ≤ y.1, y.1 ≤ 64, y.2 = itN (rnS (spF b)) y.1.toNat hv], fun y => (64 - y.1).toNat⟩), (22, fun S => ⟨Int × (List Int), fun y => [], fun n y => [(18, some (one (.int .i64 (y.1))))], fun n y => setId S.m 1 (zz .u32 y.2 8), fun y => [0 ≤ y.1, y.1 ≤ 8, y.2 = itN (adS (itN (rnS (spF b)) 64 hv)) y.1.toNat hv], fun y => (8 - y.1).toNat⟩)] : List (Nat × (SS FMp → HA FMp)))) hv A b c
def ca_block : SgT FMp sg_block → List (Nat × (SS FMp → HA FMp))
  | ((hv, ()), ((A, (b, c)), ())) => (fun (hv : List Int) (A : Option Addr) (b : List Int) (c : Nat) => ([] : List (Nat × (SS FMp → HA FMp)))) hv A b c
theorem vc_block (hv : List Int) (A : Option Addr) (b : List Int) (c : Nat) : Vc (vc (FM := FMp) Xp 205 [con_turn, con_kays] (la_block ((hv, ()), ((A, (b, c)), ()))) (ca_block ((hv, ()), ((A, (b, c)), ()))) [] [] [.cell 4 172] sg_block pr_block ps_block cd_block 300 ((hv, ()), ((A, (b, c)), ()))) := by
  refine ⟨Eq.mpr (β := hv.length = (8 : Nat) → (A.isNone = true → b = []) → b.length = (64 : Nat) → (∀ (j : Nat), (0 : Int) ≤ b.getD j (0 : Int) ∧ b.getD j (0 : Int) < (256 : Int)) → ∀ (b_1 b_2 : Nat) (y : Unit), (64 : Nat) = (64 : Nat) → (64 : Nat) = (64 : Nat) → ∀ (b_3 b_4 : Nat), (∃ (y : Int × List Int), (0 : Int) = y.1 ∧ List.replicate (64 : Nat) (0 : Int) = y.2 ∧ (64 : Nat) = (64 : Nat) ∧ K256 = K256 ∧ (64 : Nat) = (64 : Nat) ∧ List.replicate (8 : Nat) (0 : Int) = List.replicate (8 : Nat) (0 : Int) ∧ (8 : Nat) = (8 : Nat) ∧ hv = hv ∧ (8 : Nat) = (8 : Nat) ∧ (0 : Int) ≤ y.1 ∧ y.1 ≤ (16 : Int) ∧ y.2 = itN (wbS b) y.1.toNat (List.replicate (64 : Nat) (0 : Int))) ∧ ∀ (y : Int × List Int), y.2.length = (64 : Nat) → (64 : Nat) = (64 : Nat) → (8 : Nat) = (8 : Nat) → hv.length = (8 : Nat) → (0 : Int) ≤ y.1 → y.1 ≤ (16 : Int) → y.2 = itN (wbS b) y.1.toNat (List.replicate (64 : Nat) (0 : Int)) → (decide (y.1 < (16 : Int)) = true → (-9223372036854775808 : Int) ≤ (4 : Int) * y.1 ∧ (4 : Int) * y.1 ≤ (9223372036854775807 : Int) ∧ (0 : Int) ≤ (4 : Int) * y.1 ∧ (4 : Int) * y.1 < (↑b.length : Int) ∧ ((4 : Int) * y.1).toNat < b.length ∧ ((4 : Int) * y.1).toNat < b.length ∧ (-9223372036854775808 : Int) ≤ (4 : Int) * y.1 ∧ (4 : Int) * y.1 ≤ (9223372036854775807 : Int) ∧ (-9223372036854775808 : Int) ≤ (4 : Int) * y.1 + (1 : Int) ∧ (4 : Int) * y.1 + (1 : Int) ≤ (9223372036854775807 : Int) ∧ (0 : Int) ≤ (4 : Int) * y.1 + (1 : Int) ∧ (4 : Int) * y.1 + (1 : Int) < (↑b.length : Int) ∧ ((4 : Int) * y.1 + (1 : Int)).toNat < b.length ∧ ((4 : Int) * y.1 + (1 : Int)).toNat < b.length ∧ (-9223372036854775808 : Int) ≤ (4 : Int) * y.1 ∧ (4 : Int) * y.1 ≤ (9223372036854775807 : Int) ∧ (-9223372036854775808 : Int) ≤ (4 : Int) * y.1 + (2 : Int) ∧ (4 : Int) * y.1 + (2 : Int) ≤ (9223372036854775807 : Int) ∧ (0 : Int) ≤ (4 : Int) * y.1 + (2 : Int) ∧ (4 : Int) * y.1 + (2 : Int) < (↑b.length : Int) ∧ ((4 : Int) * y.1 + (2 : Int)).toNat < b.length ∧ ((4 : Int) * y.1 + (2 : Int)).toNat < b.length ∧ (-9223372036854775808 : Int) ≤ (4 : Int) * y.1 ∧ (4 : Int) * y.1 ≤ (9223372036854775807 : Int) ∧ (-9223372036854775808 : Int) ≤ (4 : Int) * y.1 + (3 : Int) ∧ (4 : Int) * y.1 + (3 : Int) ≤ (9223372036854775807 : Int) ∧ (0 : Int) ≤ (4 : Int) * y.1 + (3 : Int) ∧ (4 : Int) * y.1 + (3 : Int) < (↑b.length : Int) ∧ ((4 : Int) * y.1 + (3 : Int)).toNat < b.length ∧ ((4 : Int) * y.1 + (3 : Int)).toNat < b.length ∧ (0 : Int) ≤ y.1 ∧ y.1 < (64 : Int) ∧ y.1.toNat < (64 : Nat) ∧ ∀ (q : List Int), q = y.2.set y.1.toNat (bor IntKind.u32 (bor IntKind.u32 (bor IntKind.u32 (shlV IntKind.u32 (IntKind.u32.wrap (b.getD ((4 : Int) * y.1).toNat (0 : Int))) (24 : Int)) (shlV IntKind.u32 (IntKind.u32.wrap (b.getD ((4 : Int) * y.1 + (1 : Int)).toNat (0 : Int))) (16 : Int))) (shlV IntKind.u32 (IntKind.u32.wrap (b.getD ((4 : Int) * y.1 + (2 : Int)).toNat (0 : Int))) (8 : Int))) (IntKind.u32.wrap (b.getD ((4 : Int) * y.1 + (3 : Int)).toNat (0 : Int)))) → (-9223372036854775808 : Int) ≤ y.1 + (1 : Int) ∧ y.1 + (1 : Int) ≤ (9223372036854775807 : Int) ∧ ∃ (y_1 : Int × List Int), y.1 + (1 : Int) = y_1.1 ∧ q = y_1.2 ∧ (64 : Nat) = (64 : Nat) ∧ K256 = K256 ∧ (64 : Nat) = (64 : Nat) ∧ List.replicate (8 : Nat) (0 : Int) = List.replicate (8 : Nat) (0 : Int) ∧ (8 : Nat) = (8 : Nat) ∧ hv = hv ∧ (8 : Nat) = (8 : Nat) ∧ (0 : Int) ≤ y_1.1 ∧ y_1.1 ≤ (16 : Int) ∧ y_1.2 = itN (wbS b) y_1.1.toNat (List.replicate (64 : Nat) (0 : Int)) ∧ ((16 : Int) - y_1.1).toNat < ((16 : Int) - y.1).toNat) ∧ (decide (y.1 < (16 : Int)) = false → (∃ (y_1 : Int × List Int), (16 : Int) = y_1.1 ∧ y.2 = y_1.2 ∧ (64 : Nat) = (64 : Nat) ∧ K256 = K256 ∧ (64 : Nat) = (64 : Nat) ∧ List.replicate (8 : Nat) (0 : Int) = List.replicate (8 : Nat) (0 : Int) ∧ (8 : Nat) = (8 : Nat) ∧ hv = hv ∧ (8 : Nat) = (8 : Nat) ∧ (16 : Int) ≤ y_1.1 ∧ y_1.1 ≤ (64 : Int) ∧ y_1.2 = itN spS (y_1.1.toNat - (16 : Nat)) (spI b)) ∧ ∀ (y : Int × List Int), y.2.length = (64 : Nat) → (64 : Nat) = (64 : Nat) → (8 : Nat) = (8 : Nat) → hv.length = (8 : Nat) → (16 : Int) ≤ y.1 → y.1 ≤ (64 : Int) → y.2 = itN spS (y.1.toNat - (16 : Nat)) (spI b) → (decide (y.1 < (64 : Int)) = true → (-9223372036854775808 : Int) ≤ y.1 - (15 : Int) ∧ y.1 - (15 : Int) ≤ (9223372036854775807 : Int) ∧ (0 : Int) ≤ y.1 - (15 : Int) ∧ y.1 - (15 : Int) < (64 : Int) ∧ (y.1 - (15 : Int)).toNat < (64 : Nat) ∧ (-9223372036854775808 : Int) ≤ y.1 - (15 : Int) ∧ y.1 - (15 : Int) ≤ (9223372036854775807 : Int) ∧ (0 : Int) ≤ y.1 - (15 : Int) ∧ y.1 - (15 : Int) < (64 : Int) ∧ (y.1 - (15 : Int)).toNat < (64 : Nat) ∧ (-9223372036854775808 : Int) ≤ y.1 - (15 : Int) ∧ y.1 - (15 : Int) ≤ (9223372036854775807 : Int) ∧ (0 : Int) ≤ y.1 - (15 : Int) ∧ y.1 - (15 : Int) < (64 : Int) ∧ (y.1 - (15 : Int)).toNat < (64 : Nat) ∧ (0 : Int) ≤ (7 : Int) ∧ (7 : Int) ≤ (32 : Int) ∧ ∀ (y_1 : Unit), (0 : Int) ≤ (18 : Int) ∧ (18 : Int) ≤ (32 : Int) ∧ ∀ (y_2 : Unit), (-9223372036854775808 : Int) ≤ y.1 - (2 : Int) ∧ y.1 - (2 : Int) ≤ (9223372036854775807 : Int) ∧ (0 : Int) ≤ y.1 - (2 : Int) ∧ y.1 - (2 : Int) < (64 : Int) ∧ (y.1 - (2 : Int)).toNat < (64 : Nat) ∧ (-9223372036854775808 : Int) ≤ y.1 - (2 : Int) ∧ y.1 - (2 : Int) ≤ (9223372036854775807 : Int) ∧ (0 : Int) ≤ y.1 - (2 : Int) ∧ y.1 - (2 : Int) < (64 : Int) ∧ (y.1 - (2 : Int)).toNat < (64 : Nat) ∧ (-9223372036854775808 : Int) ≤ y.1 - (2 : Int) ∧ y.1 - (2 : Int) ≤ (9223372036854775807 : Int) ∧ (0 : Int) ≤ y.1 - (2 : Int) ∧ y.1 - (2 : Int) < (64 : Int) ∧ (y.1 - (2 : Int)).toNat < (64 : Nat) ∧ (0 : Int) ≤ (17 : Int) ∧ (17 : Int) ≤ (32 : Int) ∧ ∀ (y_3 : Unit), (0 : Int) ≤ (19 : Int) ∧ (19 : Int) ≤ (32 : Int) ∧ ∀ (y_4 : Unit), (-9223372036854775808 : Int) ≤ y.1 - (7 : Int) ∧ y.1 - (7 : Int) ≤ (9223372036854775807 : Int) ∧ (0 : Int) ≤ y.1 - (7 : Int) ∧ y.1 - (7 : Int) < (64 : Int) ∧ (y.1 - (7 : Int)).toNat < (64 : Nat) ∧ (-9223372036854775808 : Int) ≤ y.1 - (16 : Int) ∧ y.1 - (16 : Int) ≤ (9223372036854775807 : Int) ∧ (0 : Int) ≤ y.1 - (16 : Int) ∧ y.1 - (16 : Int) < (64 : Int) ∧ (y.1 - (16 : Int)).toNat < (64 : Nat) ∧ (0 : Int) ≤ y.1 ∧ y.1 < (64 : Int) ∧ y.1.toNat < (64 : Nat) ∧ ∀ (q : List Int), q = y.2.set y.1.toNat (IntKind.u32.wrap (IntKind.u32.wrap (IntKind.u32.wrap (bxr IntKind.u32 (bxr IntKind.u32 (rotr (y.2.getD (y.1 - (2 : Int)).toNat (0 : Int)) (17 : Int)) (rotr (y.2.getD (y.1 - (2 : Int)).toNat (0 : Int)) (19 : Int))) (shrV IntKind.u32 (y.2.getD (y.1 - (2 : Int)).toNat (0 : Int)) (10 : Int)) + y.2.getD (y.1 - (7 : Int)).toNat (0 : Int)) + bxr IntKind.u32 (bxr IntKind.u32 (rotr (y.2.getD (y.1 - (15 : Int)).toNat (0 : Int)) (7 : Int)) (rotr (y.2.getD (y.1 - (15 : Int)).toNat (0 : Int)) (18 : Int))) (shrV IntKind.u32 (y.2.getD (y.1 - (15 : Int)).toNat (0 : Int)) (3 : Int))) + y.2.getD (y.1 - (16 : Int)).toNat (0 : Int))) → (-9223372036854775808 : Int) ≤ y.1 + (1 : Int) ∧ y.1 + (1 : Int) ≤ (9223372036854775807 : Int) ∧ ∃ (y_5 : Int × List Int), y.1 + (1 : Int) = y_5.1 ∧ q = y_5.2 ∧ (64 : Nat) = (64 : Nat) ∧ K256 = K256 ∧ (64 : Nat) = (64 : Nat) ∧ List.replicate (8 : Nat) (0 : Int) = List.replicate (8 : Nat) (0 : Int) ∧ (8 : Nat) = (8 : Nat) ∧ hv = hv ∧ (8 : Nat) = (8 : Nat) ∧ (16 : Int) ≤ y_5.1 ∧ y_5.1 ≤ (64 : Int) ∧ y_5.2 = itN spS (y_5.1.toNat - (16 : Nat)) (spI b) ∧ ((64 : Int) - y_5.1).toNat < ((64 : Int) - y.1).toNat) ∧ (decide (y.1 < (64 : Int)) = false → ∀ (b_5 : Nat), (∃ (y_1 : Int × List Int), (0 : Int) = y_1.1 ∧ hv = y_1.2 ∧ (8 : Nat) = (8 : Nat) ∧ y.2 = y.2 ∧ (64 : Nat) = (64 : Nat) ∧ K256 = K256 ∧ (64 : Nat) = (64 : Nat) ∧ List.replicate (8 : Nat) (0 : Int) = List.replicate (8 : Nat) (0 : Int) ∧ (8 : Nat) = (8 : Nat) ∧ hv = hv ∧ (8 : Nat) = (8 : Nat) ∧ (0 : Int) ≤ y_1.1 ∧ y_1.1 ≤ (64 : Int) ∧ y_1.2 = itN (rnS (spF b)) y_1.1.toNat hv) ∧ ∀ (y_1 : Int × List Int), y_1.2.length = (8 : Nat) → y.2.length = (64 : Nat) → (64 : Nat) = (64 : Nat) → (8 : Nat) = (8 : Nat) → hv.length = (8 : Nat) → (0 : Int) ≤ y_1.1 → y_1.1 ≤ (64 : Int) → y_1.2 = itN (rnS (spF b)) y_1.1.toNat hv → (decide (y_1.1 < (64 : Int)) = true → (0 : Int) ≤ y_1.1 ∧ y_1.1 < (64 : Int) ∧ y_1.1.toNat < (64 : Nat) ∧ (0 : Int) ≤ y_1.1 ∧ y_1.1 < (64 : Int) ∧ y_1.1.toNat < (64 : Nat) ∧ (0 : Int) ≤ (6 : Int) ∧ (6 : Int) ≤ (32 : Int) ∧ ∀ (y_2 : Unit), (0 : Int) ≤ (11 : Int) ∧ (11 : Int) ≤ (32 : Int) ∧ ∀ (y_3 : Unit), (0 : Int) ≤ (25 : Int) ∧ (25 : Int) ≤ (32 : Int) ∧ ∀ (y_4 : Unit), (0 : Int) ≤ (2 : Int) ∧ (2 : Int) ≤ (32 : Int) ∧ ∀ (y_5 : Unit), (0 : Int) ≤ (13 : Int) ∧ (13 : Int) ≤ (32 : Int) ∧ ∀ (y_6 : Unit), (0 : Int) ≤ (22 : Int) ∧ (22 : Int) ≤ (32 : Int) ∧ ∀ (y_7 : Unit), (-9223372036854775808 : Int) ≤ y_1.1 + (1 : Int) ∧ y_1.1 + (1 : Int) ≤ (9223372036854775807 : Int) ∧ ∃ (y_8 : Int × List Int), y_1.1 + (1 : Int) = y_8.1 ∧ ((((((((List.replicate (8 : Nat) (0 : Int)).set (0 : Nat) (IntKind.u32.wrap (IntKind.u32.wrap (IntKind.u32.wrap (IntKind.u32.wrap (IntKind.u32.wrap (y_1.2.getD (7 : Nat) (0 : Int) + bxr IntKind.u32 (bxr IntKind.u32 (rotr (y_1.2.getD (4 : Nat) (0 : Int)) (6 : Int)) (rotr (y_1.2.getD (4 : Nat) (0 : Int)) (11 : Int))) (rotr (y_1.2.getD (4 : Nat) (0 : Int)) (25 : Int))) + bxr IntKind.u32 (bnd IntKind.u32 (y_1.2.getD (4 : Nat) (0 : Int)) (y_1.2.getD (5 : Nat) (0 : Int))) (bnd IntKind.u32 (bxr IntKind.u32 (4294967295 : Int) (y_1.2.getD (4 : Nat) (0 : Int))) (y_1.2.getD (6 : Nat) (0 : Int)))) + K256.getD y_1.1.toNat (0 : Int)) + y.2.getD y_1.1.toNat (0 : Int)) + IntKind.u32.wrap (bxr IntKind.u32 (bxr IntKind.u32 (rotr (y_1.2.getD (0 : Nat) (0 : Int)) (2 : Int)) (rotr (y_1.2.getD (0 : Nat) (0 : Int)) (13 : Int))) (rotr (y_1.2.getD (0 : Nat) (0 : Int)) (22 : Int)) + bxr IntKind.u32 (bxr IntKind.u32 (bnd IntKind.u32 (y_1.2.getD (0 : Nat) (0 : Int)) (y_1.2.getD (1 : Nat) (0 : Int))) (bnd IntKind.u32 (y_1.2.getD (0 : Nat) (0 : Int)) (y_1.2.getD (2 : Nat) (0 : Int)))) (bnd IntKind.u32 (y_1.2.getD (1 : Nat) (0 : Int)) (y_1.2.getD (2 : Nat) (0 : Int))))))).set (1 : Nat) (y_1.2.getD (0 : Nat) (0 : Int))).set (2 : Nat) (y_1.2.getD (1 : Nat) (0 : Int))).set (3 : Nat) (y_1.2.getD (2 : Nat) (0 : Int))).set (4 : Nat) (IntKind.u32.wrap (y_1.2.getD (3 : Nat) (0 : Int) + IntKind.u32.wrap (IntKind.u32.wrap (IntKind.u32.wrap (IntKind.u32.wrap (y_1.2.getD (7 : Nat) (0 : Int) + bxr IntKind.u32 (bxr IntKind.u32 (rotr (y_1.2.getD (4 : Nat) (0 : Int)) (6 : Int)) (rotr (y_1.2.getD (4 : Nat) (0 : Int)) (11 : Int))) (rotr (y_1.2.getD (4 : Nat) (0 : Int)) (25 : Int))) + bxr IntKind.u32 (bnd IntKind.u32 (y_1.2.getD (4 : Nat) (0 : Int)) (y_1.2.getD (5 : Nat) (0 : Int))) (bnd IntKind.u32 (bxr IntKind.u32 (4294967295 : Int) (y_1.2.getD (4 : Nat) (0 : Int))) (y_1.2.getD (6 : Nat) (0 : Int)))) + K256.getD y_1.1.toNat (0 : Int)) + y.2.getD y_1.1.toNat (0 : Int))))).set (5 : Nat) (y_1.2.getD (4 : Nat) (0 : Int))).set (6 : Nat) (y_1.2.getD (5 : Nat) (0 : Int))).set (7 : Nat) (y_1.2.getD (6 : Nat) (0 : Int)) = y_8.2 ∧ (8 : Nat) = (8 : Nat) ∧ y.2 = y.2 ∧ (64 : Nat) = (64 : Nat) ∧ K256 = K256 ∧ (64 : Nat) = (64 : Nat) ∧ List.replicate (8 : Nat) (0 : Int) = List.replicate (8 : Nat) (0 : Int) ∧ (8 : Nat) = (8 : Nat) ∧ hv = hv ∧ (8 : Nat) = (8 : Nat) ∧ (0 : Int) ≤ y_8.1 ∧ y_8.1 ≤ (64 : Int) ∧ y_8.2 = itN (rnS (spF b)) y_8.1.toNat hv ∧ ((64 : Int) - y_8.1).toNat < ((64 : Int) - y_1.1).toNat) ∧ (decide (y_1.1 < (64 : Int)) = false → (∃ (y_2 : Int × List Int), (0 : Int) = y_2.1 ∧ y_1.2 = y_1.2 ∧ (8 : Nat) = (8 : Nat) ∧ y.2 = y.2 ∧ (64 : Nat) = (64 : Nat) ∧ K256 = K256 ∧ (64 : Nat) = (64 : Nat) ∧ List.replicate (8 : Nat) (0 : Int) = List.replicate (8 : Nat) (0 : Int) ∧ (8 : Nat) = (8 : Nat) ∧ hv = y_2.2 ∧ (8 : Nat) = (8 : Nat) ∧ (0 : Int) ≤ y_2.1 ∧ y_2.1 ≤ (8 : Int) ∧ y_2.2 = itN (adS (itN (rnS (spF b)) (64 : Nat) hv)) y_2.1.toNat hv) ∧ ∀ (y_2 : Int × List Int), y_1.2.length = (8 : Nat) → y.2.length = (64 : Nat) → (64 : Nat) = (64 : Nat) → (8 : Nat) = (8 : Nat) → y_2.2.length = (8 : Nat) → (0 : Int) ≤ y_2.1 → y_2.1 ≤ (8 : Int) → y_2.2 = itN (adS (itN (rnS (spF b)) (64 : Nat) hv)) y_2.1.toNat hv → (decide (y_2.1 < (8 : Int)) = true → (0 : Int) ≤ y_2.1 ∧ y_2.1 < (8 : Int) ∧ y_2.1.toNat < (8 : Nat) ∧ (0 : Int) ≤ y_2.1 ∧ y_2.1 < (8 : Int) ∧ y_2.1.toNat < (8 : Nat) ∧ (0 : Int) ≤ y_2.1 ∧ y_2.1 < (8 : Int) ∧ y_2.1.toNat < (8 : Nat) ∧ ∀ (q : List Int), q = y_2.2.set y_2.1.toNat (IntKind.u32.wrap (y_2.2.getD y_2.1.toNat (0 : Int) + y_1.2.getD y_2.1.toNat (0 : Int))) → (-9223372036854775808 : Int) ≤ y_2.1 + (1 : Int) ∧ y_2.1 + (1 : Int) ≤ (9223372036854775807 : Int) ∧ ∃ (y_3 : Int × List Int), y_2.1 + (1 : Int) = y_3.1 ∧ y_1.2 = y_1.2 ∧ (8 : Nat) = (8 : Nat) ∧ y.2 = y.2 ∧ (64 : Nat) = (64 : Nat) ∧ K256 = K256 ∧ (64 : Nat) = (64 : Nat) ∧ List.replicate (8 : Nat) (0 : Int) = List.replicate (8 : Nat) (0 : Int) ∧ (8 : Nat) = (8 : Nat) ∧ q = y_3.2 ∧ (8 : Nat) = (8 : Nat) ∧ (0 : Int) ≤ y_3.1 ∧ y_3.1 ≤ (8 : Int) ∧ y_3.2 = itN (adS (itN (rnS (spF b)) (64 : Nat) hv)) y_3.1.toNat hv ∧ ((8 : Int) - y_3.1).toNat < ((8 : Int) - y_2.1).toNat) ∧ (decide (y_2.1 < (8 : Int)) = false → ∃ (y : Unit), y_2.2 = cmpF hv b ∧ (8 : Nat) = (8 : Nat) ∧ (cmpF hv b).length = (8 : Nat)))))) (by kernel_rfl) ?_⟩
  simp only [imin, imax, decide_eq_true_eq, decide_eq_false_iff_not, Prod.forall, Prod.exists, exists_eq_left', exists_eq_left, exists_and_left, exists_and_right, exists_eq_right, exists_eq, exists_eq', true_and, and_true, forall_const, exists_const, eq_self, Bool.not_eq_true, Bool.not_eq_eq_eq_not, Bool.not_true, Bool.not_false, Value.slice.injEq, Option.getD_some]
  intro hh hA hb hr
  refine ⟨⟨by omega, by omega, by rw [Int.toNat_zero, itN]⟩, fun i q hq _ h0 h1 h2 => ⟨fun h => ?_, fun h => ⟨⟨by omega, by omega, ?_⟩, fun t q hq _ h0 h1 h2 => ⟨fun h => ?_, fun h => ⟨⟨by omega, by omega, by rw [Int.toNat_zero, itN]⟩, fun k s hs hq _ h3 h4 h5 => ⟨fun h6 => ?_, fun h6 => ⟨⟨by omega, by omega, by rw [Int.toNat_zero, itN]⟩, fun j g hs2 _ hg h7 h8 h9 => ⟨fun h10 => ?_, fun h10 => ?_⟩⟩⟩⟩⟩⟩⟩⟩
  · repeat refine ⟨by first | omega | with_reducible assumption | with_reducible rfl, ?_⟩
    intro q' e
    repeat refine ⟨by first | omega | with_reducible assumption | with_reducible rfl, ?_⟩
    refine ⟨?_, by omega⟩
    rw [e, show (i + 1).toNat = i.toNat + 1 by omega, show (4 * i).toNat = 4 * i.toNat by omega, show (4 * i + 1).toNat = 4 * i.toNat + 1 by omega, show (4 * i + 2).toNat = 4 * i.toNat + 2 by omega, show (4 * i + 3).toNat = 4 * i.toNat + 3 by omega, itN, wbS, wbV, ← h2]
  · rw [h2, show i.toNat = 16 by omega, ← spI_eq b hr 16 (by omega), show Int.toNat 16 - 16 = 0 from rfl, itN, spI]
  · repeat refine ⟨by first | omega | with_reducible assumption | with_reducible rfl, ?_⟩
    intro q' e
    repeat refine ⟨by first | omega | with_reducible assumption | with_reducible rfl, ?_⟩
    refine ⟨?_, by omega⟩
    rw [e, show (t + 1).toNat - 16 = (t.toNat - 16) + 1 by omega, itN, spS, spV, show t.toNat - 16 + 16 = t.toNat by omega, show (t - 2).toNat = t.toNat - 2 by omega, show (t - 15).toNat = t.toNat - 15 by omega, show (t - 7).toNat = t.toNat - 7 by omega, show (t - 16).toNat = t.toNat - 16 by omega, tu17, tu7, ← h2]
  · have hw5 : q = spF b := by rw [h2, show t.toNat - 16 = 48 by omega, spF]
    repeat refine ⟨by first | omega | with_reducible assumption | with_reducible rfl, ?_⟩
    refine ⟨?_, by omega⟩
    rw [show (k + 1).toNat = k.toNat + 1 by omega, itN, ← h5, rnS, rT1, rT2, tu6, tu2, ← wr3 _ (K256.getD k.toNat 0), hw5]
    rfl
  · repeat refine ⟨by first | omega | with_reducible assumption | with_reducible rfl, ?_⟩
    intro q' e
    repeat refine ⟨by first | omega | with_reducible assumption | with_reducible rfl, ?_⟩
    refine ⟨?_, by omega⟩
    rw [e, show (j + 1).toNat = j.toNat + 1 by omega, itN, adS, ← h9, h5, show k.toNat = 64 by omega]
  · exact ⟨by rw [h9, show j.toNat = 8 by omega, cmpF], cmpF_length hh⟩
noncomputable def con_block : Con Xp.P FMp := ⟨99, sg_block, pr_block, ps_block, vc_ok (La := la_block) (Ca := ca_block) 300 (fn := Go.Proofs.Try.f99) (by kernel_rfl) (c := cd_block) (by kernel_rfl) (by kernel_rfl) (by kernel_rfl) (by kernel_rfl) (fun ⟨⟨hv, ⟨⟩⟩, ⟨⟨A, ⟨b, c⟩⟩, ⟨⟩⟩⟩ => vc_block hv A b c)⟩
noncomputable def cd_rsum : Code := (Go.Proofs.Try.f71.body).getD .skip
def sg_rsum : List Arg := [.one (.sli .u8)]
def pr_rsum : SgT FMp sg_rsum → List Prop
  | ((A, (b, c)), ()) => (fun (A : Option Addr) (b : List Int) (c : Nat) => ([b.length ≤ 140737488355000, ∀ j, 0 ≤ b.getD j 0 ∧ b.getD j 0 < 256] : List Prop)) A b c
def ps_rsum : SgT FMp sg_rsum → PS FMp
  | ((A, (b, c)), ()) => (fun (A : Option Addr) (b : List Int) (c : Nat) => (⟨Unit, fun y => [], fun y => .v (.ag (zz .u8 (shaF b) 32)), fun y => [], fun y => [(shaF b).length = 32]⟩ : PS FMp)) A b c
def la_rsum : SgT FMp sg_rsum → List (Nat × (SS FMp → HA FMp))
  | ((A, (b, c)), ()) => (fun (A : Option Addr) (b : List Int) (c : Nat) => ([(4, fun S => ⟨Int × (List Int), fun y => [], fun n y => [(5, some (one (.int .i64 (y.1))))], fun n y => setId S.m 2 (zz .u32 y.2 8), fun y => [0 ≤ y.1, y.1 % 64 = 0, y.1 ≤ (padF b).length, y.2 = itN (hnS (padF b)) (y.1.toNat / 64) H256], fun y => ((padF b).length - y.1).toNat⟩), (9, fun S => ⟨Int × (List Int), fun y => [], fun n y => [(7, some (one (.int .i64 (y.1))))], fun n y => setId S.m 4 (zz .u8 y.2 32), fun y => [0 ≤ y.1, y.1 ≤ 32, y.2 = itN (ouS (la_l S 2)) y.1.toNat (List.replicate 32 0)], fun y => (32 - y.1).toNat⟩)] : List (Nat × (SS FMp → HA FMp)))) A b c
def ca_rsum : SgT FMp sg_rsum → List (Nat × (SS FMp → HA FMp))
  | ((A, (b, c)), ()) => (fun (A : Option Addr) (b : List Int) (c : Nat) => ([] : List (Nat × (SS FMp → HA FMp)))) A b c
theorem vc_rsum (A : Option Addr) (b : List Int) (c : Nat) : Vc (vc (FM := FMp) Xp 42 [con_rpadded, con_block] (la_rsum ((A, (b, c)), ())) (ca_rsum ((A, (b, c)), ())) [] [] [.cell 2 40] sg_rsum pr_rsum ps_rsum cd_rsum 300 ((A, (b, c)), ())) := by
  refine ⟨Eq.mpr (β := (A.isNone = true → b = []) → b.length ≤ (140737488355000 : Nat) → (∀ (j : Nat), (0 : Int) ≤ b.getD j (0 : Int) ∧ b.getD j (0 : Int) < (256 : Int)) → ∀ (b_1 b_2 : Nat), b.length = b.length ∧ b.length ≤ (140737488355000 : Nat) ∧ ∀ (y : Option Addr × Nat), (padF b).length = (padF b).length → (padF b).length ≤ y.2 → (∃ (y_1 : Int × List Int), (0 : Int) = y_1.1 ∧ (padF b).length = (padF b).length ∧ y.2 = y.2 ∧ padF b = padF b ∧ (padF b).length = (padF b).length ∧ ((((((((List.replicate (8 : Nat) (0 : Int)).set (0 : Nat) (1779033703 : Int)).set (1 : Nat) (3144134277 : Int)).set (2 : Nat) (1013904242 : Int)).set (3 : Nat) (2773480762 : Int)).set (4 : Nat) (1359893119 : Int)).set (5 : Nat) (2600822924 : Int)).set (6 : Nat) (528734635 : Int)).set (7 : Nat) (1541459225 : Int) = y_1.2 ∧ (8 : Nat) = (8 : Nat) ∧ List.replicate (32 : Nat) (0 : Int) = List.replicate (32 : Nat) (0 : Int) ∧ (32 : Nat) = (32 : Nat) ∧ (0 : Int) ≤ y_1.1 ∧ y_1.1 % (64 : Int) = (0 : Int) ∧ y_1.1 ≤ (↑(padF b).length : Int) ∧ y_1.2 = itN (hnS (padF b)) (y_1.1.toNat / (64 : Nat)) H256) ∧ ∀ (y_1 : Int × List Int), (padF b).length = (padF b).length → y_1.2.length = (8 : Nat) → (32 : Nat) = (32 : Nat) → (0 : Int) ≤ y_1.1 → y_1.1 % (64 : Int) = (0 : Int) → y_1.1 ≤ (↑(padF b).length : Int) → y_1.2 = itN (hnS (padF b)) (y_1.1.toNat / (64 : Nat)) H256 → (decide (y_1.1 < (↑(padF b).length : Int)) = true → (-9223372036854775808 : Int) ≤ y_1.1 + (64 : Int) ∧ y_1.1 + (64 : Int) ≤ (9223372036854775807 : Int) ∧ (0 : Int) ≤ (some y_1.1).getD (0 : Int) ∧ (some y_1.1).getD (0 : Int) ≤ y_1.1 + (64 : Int) ∧ y_1.1 + (64 : Int) ≤ (↑y.2 : Int) ∧ (y_1.1 + (64 : Int)).toNat - ((some y_1.1).getD (0 : Int)).toNat = (y_1.1 + (64 : Int)).toNat - ((some y_1.1).getD (0 : Int)).toNat ∧ ((some y_1.1).getD (0 : Int)).toNat + ((y_1.1 + (64 : Int)).toNat - ((some y_1.1).getD (0 : Int)).toNat) ≤ (padF b).length ∧ (List.take ((y_1.1 + (64 : Int)).toNat - ((some y_1.1).getD (0 : Int)).toNat) (List.drop ((some y_1.1).getD (0 : Int)).toNat (padF b))).length = (64 : Nat) ∧ (∀ (j : Nat), (0 : Int) ≤ (List.take ((y_1.1 + (64 : Int)).toNat - ((some y_1.1).getD (0 : Int)).toNat) (List.drop ((some y_1.1).getD (0 : Int)).toNat (padF b))).getD j (0 : Int) ∧ (List.take ((y_1.1 + (64 : Int)).toNat - ((some y_1.1).getD (0 : Int)).toNat) (List.drop ((some y_1.1).getD (0 : Int)).toNat (padF b))).getD j (0 : Int) < (256 : Int)) ∧ ∀ (y_2 : Unit), (cmpF y_1.2 (List.take ((y_1.1 + (64 : Int)).toNat - ((some y_1.1).getD (0 : Int)).toNat) (List.drop ((some y_1.1).getD (0 : Int)).toNat (padF b)))).length = (8 : Nat) → (cmpF y_1.2 (List.take ((y_1.1 + (64 : Int)).toNat - ((some y_1.1).getD (0 : Int)).toNat) (List.drop ((some y_1.1).getD (0 : Int)).toNat (padF b)))).length = (8 : Nat) → (-9223372036854775808 : Int) ≤ y_1.1 + (64 : Int) ∧ y_1.1 + (64 : Int) ≤ (9223372036854775807 : Int) ∧ ∃ (y_3 : Int × List Int), y_1.1 + (64 : Int) = y_3.1 ∧ (padF b).length = (padF b).length ∧ y.2 = y.2 ∧ padF b = padF b ∧ (padF b).length = (padF b).length ∧ cmpF y_1.2 (List.take ((y_1.1 + (64 : Int)).toNat - ((some y_1.1).getD (0 : Int)).toNat) (List.drop ((some y_1.1).getD (0 : Int)).toNat (padF b))) = y_3.2 ∧ (8 : Nat) = (8 : Nat) ∧ List.replicate (32 : Nat) (0 : Int) = List.replicate (32 : Nat) (0 : Int) ∧ (32 : Nat) = (32 : Nat) ∧ (0 : Int) ≤ y_3.1 ∧ y_3.1 % (64 : Int) = (0 : Int) ∧ y_3.1 ≤ (↑(padF b).length : Int) ∧ y_3.2 = itN (hnS (padF b)) (y_3.1.toNat / (64 : Nat)) H256 ∧ ((↑(padF b).length : Int) - y_3.1).toNat < ((↑(padF b).length : Int) - y_1.1).toNat) ∧ (decide (y_1.1 < (↑(padF b).length : Int)) = false → ∀ (b_3 : Nat), (∃ (y_2 : Int × List Int), (0 : Int) = y_2.1 ∧ List.replicate (32 : Nat) (0 : Int) = y_2.2 ∧ (32 : Nat) = (32 : Nat) ∧ (padF b).length = (padF b).length ∧ y.2 = y.2 ∧ padF b = padF b ∧ (padF b).length = (padF b).length ∧ y_1.2 = y_1.2 ∧ (8 : Nat) = (8 : Nat) ∧ List.replicate (32 : Nat) (0 : Int) = List.replicate (32 : Nat) (0 : Int) ∧ (32 : Nat) = (32 : Nat) ∧ (0 : Int) ≤ y_2.1 ∧ y_2.1 ≤ (32 : Int) ∧ y_2.2 = itN (ouS y_1.2) y_2.1.toNat (List.replicate (32 : Nat) (0 : Int))) ∧ ∀ (y_2 : Int × List Int), y_2.2.length = (32 : Nat) → (padF b).length = (padF b).length → y_1.2.length = (8 : Nat) → (32 : Nat) = (32 : Nat) → (0 : Int) ≤ y_2.1 → y_2.1 ≤ (32 : Int) → y_2.2 = itN (ouS y_1.2) y_2.1.toNat (List.replicate (32 : Nat) (0 : Int)) → (decide (y_2.1 < (32 : Int)) = true → (0 : Int) ≤ y_2.1 ∧ y_2.1 ≤ (9223372036854775807 : Int) ∧ (0 : Int) < (4 : Int) ∧ (0 : Int) ≤ y_2.1 / (4 : Int) ∧ y_2.1 / (4 : Int) < (8 : Int) ∧ (y_2.1 / (4 : Int)).toNat < (8 : Nat) ∧ (0 : Int) ≤ y_2.1 ∧ (0 : Int) < (4 : Int) ∧ (-9223372036854775808 : Int) ≤ (8 : Int) * (y_2.1 % (4 : Int)) ∧ (8 : Int) * (y_2.1 % (4 : Int)) ≤ (9223372036854775807 : Int) ∧ (-9223372036854775808 : Int) ≤ (24 : Int) - (8 : Int) * (y_2.1 % (4 : Int)) ∧ (24 : Int) - (8 : Int) * (y_2.1 % (4 : Int)) ≤ (9223372036854775807 : Int) ∧ (0 : Int) ≤ IntKind.u64.wrap ((24 : Int) - (8 : Int) * (y_2.1 % (4 : Int))) ∧ (0 : Int) ≤ y_2.1 ∧ y_2.1 < (32 : Int) ∧ y_2.1.toNat < (32 : Nat) ∧ ∀ (q : List Int), q = y_2.2.set y_2.1.toNat (IntKind.u8.wrap (shrV IntKind.u32 (y_1.2.getD (y_2.1 / (4 : Int)).toNat (0 : Int)) (IntKind.u64.wrap ((24 : Int) - (8 : Int) * (y_2.1 % (4 : Int)))))) → (-9223372036854775808 : Int) ≤ y_2.1 + (1 : Int) ∧ y_2.1 + (1 : Int) ≤ (9223372036854775807 : Int) ∧ ∃ (y_3 : Int × List Int), y_2.1 + (1 : Int) = y_3.1 ∧ q = y_3.2 ∧ (32 : Nat) = (32 : Nat) ∧ (padF b).length = (padF b).length ∧ y.2 = y.2 ∧ padF b = padF b ∧ (padF b).length = (padF b).length ∧ y_1.2 = y_1.2 ∧ (8 : Nat) = (8 : Nat) ∧ List.replicate (32 : Nat) (0 : Int) = List.replicate (32 : Nat) (0 : Int) ∧ (32 : Nat) = (32 : Nat) ∧ (0 : Int) ≤ y_3.1 ∧ y_3.1 ≤ (32 : Int) ∧ y_3.2 = itN (ouS y_1.2) y_3.1.toNat (List.replicate (32 : Nat) (0 : Int)) ∧ ((32 : Int) - y_3.1).toNat < ((32 : Int) - y_2.1).toNat) ∧ (decide (y_2.1 < (32 : Int)) = false → ∃ (y : Unit), y_2.2 = shaF b ∧ (32 : Nat) = (32 : Nat) ∧ (shaF b).length = (32 : Nat)))) (by kernel_rfl) ?_⟩
  simp only [imin, imax, decide_eq_true_eq, decide_eq_false_iff_not, Prod.forall, Prod.exists, exists_eq_left', exists_eq_left, exists_and_left, exists_and_right, exists_eq_right, exists_eq, exists_eq', true_and, and_true, forall_const, exists_const, eq_self, Bool.not_eq_true, Bool.not_eq_eq_eq_not, Bool.not_true, Bool.not_false, Value.slice.injEq, Option.getD_some]
  intro hA hn hr
  have hp := padF_mod b
  have hple := padF_le b
  have hpr := padF_range hr
  refine ⟨hn, fun c1 hc1 => ⟨⟨by omega, by omega, by omega, by rw [show Int.toNat 0 / 64 = 0 from rfl, itN]; kernel_rfl⟩, fun i hv hh h0 h1 h2 h3 => ⟨fun h => ?_, fun h => ⟨⟨by omega, by omega, by rw [Int.toNat_zero, itN]⟩, fun k q hq _ h4 h5 h6 => ⟨fun h7 => ?_, fun h7 => ?_⟩⟩⟩⟩⟩
  · have hl : (List.take ((i + 64).toNat - i.toNat) (List.drop i.toNat (padF b))).length = 64 := by rw [List.length_take, List.length_drop]; omega
    refine ⟨by omega, by omega, by omega, by omega, by omega, by omega, hl, get_of_mem (p := fun x => 0 ≤ x ∧ x < 256) (by omega) (fun x hx => hpr x (List.mem_of_mem_drop (List.mem_of_mem_take hx))), fun h8 _ => ⟨by omega, by omega, by omega, by omega, by omega, ?_, by omega⟩⟩
    rw [show (i + 64).toNat / 64 = i.toNat / 64 + 1 by omega, itN, hnS, ← h3, show (i + 64).toNat - i.toNat = 64 by omega, show 64 * (i.toNat / 64) = i.toNat by omega]
  · have hw : IntKind.u64.wrap (24 - 8 * (k % 4)) = 24 - 8 * (k % 4) := by rw [wrap64]; omega
    rw [hw]
    repeat refine ⟨by first | omega | with_reducible assumption | with_reducible rfl, ?_⟩
    intro q' e
    repeat refine ⟨by first | omega | with_reducible assumption | with_reducible rfl, ?_⟩
    refine ⟨?_, by omega⟩
    rw [e, show (k + 1).toNat = k.toNat + 1 by omega, itN, ouS, byt32, show (k / 4).toNat = k.toNat / 4 by omega, show ((k.toNat % 4 : Nat) : Int) = k % 4 by omega, ← h6]
  · exact ⟨by rw [h6, show k.toNat = 32 by omega, shaF, hN, show (padF b).length / 64 = i.toNat / 64 by omega, h3], shaF_length b⟩
noncomputable def con_rsum : Con Xp.P FMp := ⟨71, sg_rsum, pr_rsum, ps_rsum, vc_ok (La := la_rsum) (Ca := ca_rsum) 300 (fn := Go.Proofs.Try.f71) (by kernel_rfl) (c := cd_rsum) (by kernel_rfl) (by kernel_rfl) (by kernel_rfl) (by kernel_rfl) (fun ⟨⟨A, ⟨b, c⟩⟩, ⟨⟩⟩ => vc_rsum A b c)⟩
noncomputable def cd_rpair : Code := (Go.Proofs.Try.f32.body).getD .skip
def sg_rpair : List Arg := [.ag [.arr .u8 32], .ag [.arr .u8 32]]
def pr_rpair : SgT FMp sg_rpair → List Prop
  | ((u, ()), ((v, ()), ())) => (fun (u v : List Int) => ([∀ j, 0 ≤ u.getD j 0 ∧ u.getD j 0 < 256, ∀ j, 0 ≤ v.getD j 0 ∧ v.getD j 0 < 256] : List Prop)) u v
def ps_rpair : SgT FMp sg_rpair → PS FMp
  | ((u, ()), ((v, ()), ())) => (fun (u v : List Int) => (⟨Unit, fun y => [], fun y => .v (.ag (zz .u8 (shaF ([1] ++ u ++ v)) 32)), fun y => [], fun y => [(shaF ([1] ++ u ++ v)).length = 32]⟩ : PS FMp)) u v
def la_rpair : SgT FMp sg_rpair → List (Nat × (SS FMp → HA FMp))
  | ((u, ()), ((v, ()), ())) => (fun (u v : List Int) => ([] : List (Nat × (SS FMp → HA FMp)))) u v
def ca_rpair : SgT FMp sg_rpair → List (Nat × (SS FMp → HA FMp))
  | ((u, ()), ((v, ()), ())) => (fun (u v : List Int) => ([] : List (Nat × (SS FMp → HA FMp)))) u v
theorem vc_rpair (u v : List Int) : Vc (vc (FM := FMp) Xp 11 [con_rsum] (la_rpair ((u, ()), ((v, ()), ()))) (ca_rpair ((u, ()), ((v, ()), ()))) [] [] [.cell 4 40] sg_rpair pr_rpair ps_rpair cd_rpair 300 ((u, ()), ((v, ()), ()))) := by
  refine ⟨Eq.mpr (β := u.length = (32 : Nat) → v.length = (32 : Nat) → (∀ (j : Nat), (0 : Int) ≤ u.getD j (0 : Int) ∧ u.getD j (0 : Int) < (256 : Int)) → (∀ (j : Nat), (0 : Int) ≤ v.getD j (0 : Int) ∧ v.getD j (0 : Int) < (256 : Int)) → ∀ (b b b b : Nat), (1 : Nat) = (1 : Nat) ∧ (1 : Nat) = (1 : Nat) ∧ (32 : Nat) = (32 : Nat) ∧ (33 : Nat) * Proofs.Try.prog.types[(5 : Nat)].bytes ≤ (140737488355328 : Nat) ∧ ∀ (A : Option Addr) (q : Nat), (33 : Nat) ≤ q → (33 : Nat) = (33 : Nat) ∧ q = q ∧ (32 : Nat) = (32 : Nat) ∧ (65 : Nat) * Proofs.Try.prog.types[(5 : Nat)].bytes ≤ (140737488355328 : Nat) ∧ ∀ (A : Option Addr) (q : Nat), (65 : Nat) ≤ q → (65 : Nat) = (65 : Nat) ∧ ([(1 : Int)] ++ u ++ v).length ≤ (140737488355000 : Nat) ∧ (∀ (j : Nat), (0 : Int) ≤ ([(1 : Int)] ++ u ++ v).getD j (0 : Int) ∧ ([(1 : Int)] ++ u ++ v).getD j (0 : Int) < (256 : Int)) ∧ ∀ (y : Unit), (shaF ([(1 : Int)] ++ u ++ v)).length = (32 : Nat) → (shaF ([(1 : Int)] ++ u ++ v)).length = (32 : Nat) → ∃ (y : Unit), shaF ([(1 : Int)] ++ u ++ v) = shaF ([(1 : Int)] ++ u ++ v) ∧ (32 : Nat) = (32 : Nat) ∧ (shaF ([(1 : Int)] ++ u ++ v)).length = (32 : Nat)) (by kernel_rfl) ?_⟩
  simp only [imin, imax, decide_eq_true_eq, decide_eq_false_iff_not, Prod.forall, Prod.exists, exists_eq_left', exists_eq_left, exists_and_left, exists_and_right, exists_eq_right, exists_eq, exists_eq', true_and, and_true, forall_const, exists_const, eq_self, Bool.not_eq_true, Bool.not_eq_eq_eq_not, Bool.not_true, Bool.not_false, Value.slice.injEq, Option.getD_some]
  intro hu hv h1 h2
  have hl : ([1] ++ u ++ v : List Int).length = 65 := by simp; omega
  refine ⟨by rw [BY1]; omega, fun q hq => ⟨by rw [BY1]; omega, fun q hq => ⟨by omega, get_of_mem (p := fun x => 0 ≤ x ∧ x < 256) (by omega) (fun z hz => ?_), fun h _ => h⟩⟩⟩
  rcases List.mem_append.1 hz with h | h
  · rcases List.mem_append.1 h with h | h
    · simp at h; omega
    · exact mem_of_get (p := fun x => 0 ≤ x ∧ x < 256) h1 z h
  · exact mem_of_get (p := fun x => 0 ≤ x ∧ x < 256) h2 z h
noncomputable def con_rpair : Con Xp.P FMp := ⟨32, sg_rpair, pr_rpair, ps_rpair, vc_ok (La := la_rpair) (Ca := ca_rpair) 300 (fn := Go.Proofs.Try.f32) (by kernel_rfl) (c := cd_rpair) (by kernel_rfl) (by kernel_rfl) (by kernel_rfl) (by kernel_rfl) (fun ⟨⟨u, ⟨⟩⟩, ⟨⟨v, ⟨⟩⟩, ⟨⟩⟩⟩ => vc_rpair u v)⟩

end Go.Pw
end
section
/-
  Walks by computing. No condition.
-/
set_option linter.all false
set_option maxRecDepth 100000
set_option maxHeartbeats 1000000
namespace Go.Pw
open Go Go.Px Go.RowKit
attribute [local irreducible] shaF

def emp : Nat → List Int
  | 0 => List.replicate 32 0
  | k + 1 => shaF ([1] ++ emp k ++ emp k)
theorem emp_length : ∀ k, (emp k).length = 32
  | 0 => by simp [emp]
  | k + 1 => by rw [emp]; exact shaF_length _
theorem shl1' : ∀ n : Nat, n ≤ 16 → shlV .i64 1 (n : Int) = 2 ^ n := by
  intro n h
  have : ∀ n : Fin 17, shlV .i64 1 ((n.val : Nat) : Int) = 2 ^ n.val := by decide
  exact this ⟨n, by omega⟩
theorem shl1 {d : Int} (h0 : 0 ≤ d) (h1 : d ≤ 16) : shlV .i64 1 d = 2 ^ d.toNat := by
  have := shl1' d.toNat (by omega)
  rwa [Int.toNat_of_nonneg h0] at this
def askV (d i n : Int) : Int := if 0 ≤ d ∧ d ≤ 16 ∧ 0 ≤ i ∧ i < 2 ^ d.toNat then (if 2 ^ d.toNat < n then 4 else 0) else 2
def nl : Nat → List (List Int)
  | 0 => List.replicate 17 (List.replicate 32 0)
  | k + 1 => (nl k).set k (emp k)
theorem nl_length : ∀ k, (nl k).length = 17
  | 0 => by simp [nl]
  | k + 1 => by rw [nl, List.length_set]; exact nl_length k
theorem nl_all : ∀ k, ∀ a ∈ nl k, a.length = 32
  | 0 => fun a ha => by rw [List.eq_of_mem_replicate ha]; simp
  | k + 1 => fun a ha => by
    rcases List.mem_or_eq_of_mem_set ha with h | h
    · exact nl_all k a h
    · rw [h]; exact emp_length k
theorem nl_get : ∀ k j, j < k → k ≤ 17 → (nl k).getD j (List.replicate 32 0) = emp j
  | 0, j, h, _ => by omega
  | k + 1, j, h, hk => by
    rw [nl]
    by_cases e : j = k
    · subst e
      have := nl_length j
      simp [List.getD_eq_getElem?_getD, List.getElem?_set, this, show j < 17 by omega]
    · have := nl_get k j (by omega) (by omega)
      rw [← this]
      simp [List.getD_eq_getElem?_getD, List.getElem?_set, show ¬ k = j by omega]

noncomputable def cd_asked : Code := (Go.Proofs.Try.f113.body).getD .skip
def sg_asked : List Arg := [.one (.int .i64), .one (.int .i64), .one (.int .i64)]
def pr_asked : SgT FMp sg_asked → List Prop
  | (d, (i, (n, ()))) => (fun (d i n : Int) => ([] : List Prop)) d i n
def ps_asked : SgT FMp sg_asked → PS FMp
  | (d, (i, (n, ()))) => (fun (d i n : Int) => (⟨Unit, fun y => [], fun y => one (.int .i64 (askV d i n)), fun y => [], fun y => []⟩ : PS FMp)) d i n
def la_asked : SgT FMp sg_asked → List (Nat × (SS FMp → HA FMp))
  | (d, (i, (n, ()))) => (fun (d i n : Int) => ([] : List (Nat × (SS FMp → HA FMp)))) d i n
def ca_asked : SgT FMp sg_asked → List (Nat × (SS FMp → HA FMp))
  | (d, (i, (n, ()))) => (fun (d i n : Int) => ([] : List (Nat × (SS FMp → HA FMp)))) d i n
theorem vc_asked (d i n : Int) : Vc (vc (FM := FMp) Xp 26 [] (la_asked (d, (i, (n, ())))) (ca_asked (d, (i, (n, ())))) [] [136] [.tmp 6] sg_asked pr_asked ps_asked cd_asked 300 (d, (i, (n, ())))) := by
  refine ⟨Eq.mpr (β := ((!(decide ((0 : Int) ≤ d) && decide (d ≤ (16 : Int))) || decide (i < (0 : Int))) = false → (0 : Int) ≤ d) ∧ ((!(decide ((0 : Int) ≤ d) && decide (d ≤ (16 : Int))) || decide (i < (0 : Int)) || decide (shlV IntKind.i64 (1 : Int) d ≤ i)) = true → ∃ (y : Unit), (2 : Int) = askV d i n) ∧ ((!(decide ((0 : Int) ≤ d) && decide (d ≤ (16 : Int))) || decide (i < (0 : Int)) || decide (shlV IntKind.i64 (1 : Int) d ≤ i)) = false → (0 : Int) ≤ d ∧ (decide (shlV IntKind.i64 (1 : Int) d < n) = true → ∃ (y : Unit), (4 : Int) = askV d i n) ∧ (decide (shlV IntKind.i64 (1 : Int) d < n) = false → ∃ (y : Unit), (0 : Int) = askV d i n))) (by kernel_rfl) ?_⟩
  simp only [imin, imax, decide_eq_true_eq, decide_eq_false_iff_not, Prod.forall, Prod.exists, exists_eq_left', exists_eq_left, exists_and_left, exists_and_right, exists_eq_right, exists_eq, exists_eq', true_and, and_true, forall_const, exists_const, eq_self, Bool.not_eq_true, Bool.not_eq_eq_eq_not, Bool.not_true, Bool.not_false, Value.slice.injEq, Option.getD_some]
  by_cases h0 : 0 ≤ d
  · by_cases h1 : d ≤ 16
    · rw [shl1 h0 h1]
      by_cases h2 : i < 0
      · simp [askV, h0, h1, h2, show ¬ 0 ≤ i by omega]
      · by_cases h3 : i < 2 ^ d.toNat
        · simp [askV, h0, h1, h2, h3, show 0 ≤ i by omega, show ¬ (2 ^ d.toNat ≤ i) by omega]
        · simp [askV, h0, h1, h2, h3, show 0 ≤ i by omega, show 2 ^ d.toNat ≤ i by omega]
    · simp [askV, h0, h1]
  · simp [askV, h0]
noncomputable def con_asked : Con Xp.P FMp := ⟨113, sg_asked, pr_asked, ps_asked, vc_ok (La := la_asked) (Ca := ca_asked) 300 (fn := Go.Proofs.Try.f113) (by kernel_rfl) (c := cd_asked) (by kernel_rfl) (by kernel_rfl) (by kernel_rfl) (by kernel_rfl) (fun ⟨d, ⟨i, ⟨n, ⟨⟩⟩⟩⟩ => vc_asked d i n)⟩
noncomputable def cd_none_ : Code := (Go.Proofs.Try.f114.body).getD .skip
def sg_none_ : List Arg := [.one (.int .i64)]
def pr_none_ : SgT FMp sg_none_ → List Prop
  | (d, ()) => (fun (d : Int) => ([0 ≤ d, d ≤ 16] : List Prop)) d
def ps_none_ : SgT FMp sg_none_ → PS FMp
  | (d, ()) => (fun (d : Int) => (⟨Unit, fun y => [], fun y => .v (.ag [.f 0 (nl (d.toNat + 1)) 17]), fun y => [], fun y => [(nl (d.toNat + 1)).length = 17, ∀ a ∈ nl (d.toNat + 1), a.length = 32]⟩ : PS FMp)) d
def la_none_ : SgT FMp sg_none_ → List (Nat × (SS FMp → HA FMp))
  | (d, ()) => (fun (d : Int) => ([(14500002, fun S => ⟨Int × (List Int) × (List (List Int)), fun y => [], fun n y => [(3, some (one (.int .i64 (y.1))))], fun n y => setId (setId S.m 5 (zz .u8 y.2.1 32)) 2 [.f 0 y.2.2 17], fun y => [0 ≤ y.1, y.1 ≤ d, y.2.1 = emp y.1.toNat, y.2.2 = nl y.1.toNat], fun y => (d - y.1).toNat⟩)] : List (Nat × (SS FMp → HA FMp)))) d
def ca_none_ : SgT FMp sg_none_ → List (Nat × (SS FMp → HA FMp))
  | (d, ()) => (fun (d : Int) => ([] : List (Nat × (SS FMp → HA FMp)))) d
theorem vc_none_ (d : Int) : Vc (vc (FM := FMp) Xp 16 [con_pair] (la_none_ (d, ())) (ca_none_ (d, ())) [] [137, 144] [.cell 2 191] sg_none_ pr_none_ ps_none_ cd_none_ 300 (d, ())) := by
  refine ⟨Eq.mpr (β := (0 : Int) ≤ d → d ≤ (16 : Int) → ∀ (b b b bD bl : Nat) (r : Loop) (b : Nat), (∃ (y : Int × List Int × List (List Int)), (0 : Int) = y.1 ∧ List.replicate (32 : Nat) (0 : Int) = y.2.1 ∧ (32 : Nat) = (32 : Nat) ∧ r = r ∧ List.replicate (17 : Nat) (List.replicate (32 : Nat) (0 : Int)) = y.2.2 ∧ (17 : Nat) = (17 : Nat) ∧ List.replicate (17 : Nat) (List.replicate (32 : Nat) (0 : Int)) = List.replicate (17 : Nat) (List.replicate (32 : Nat) (0 : Int)) ∧ (17 : Nat) = (17 : Nat) ∧ d = d ∧ (0 : Int) ≤ y.1 ∧ y.1 ≤ d ∧ y.2.1 = emp y.1.toNat ∧ y.2.2 = nl y.1.toNat) ∧ ∀ (y : Int × List Int × List (List Int)), y.2.1.length = (32 : Nat) → y.2.2.length = (17 : Nat) → (∀ (a : List Int), a ∈ y.2.2 → a.length = (32 : Nat)) → (17 : Nat) = (17 : Nat) → (∀ (a : List Int), a ∈ List.replicate (17 : Nat) (List.replicate (32 : Nat) (0 : Int)) → a.length = (32 : Nat)) → (0 : Int) ≤ y.1 → y.1 ≤ d → y.2.1 = emp y.1.toNat → y.2.2 = nl y.1.toNat → r = r ∧ ∀ (b : Nat), (0 : Int) ≤ y.1 ∧ y.1 < (17 : Int) ∧ y.1.toNat < (17 : Nat) ∧ (decide (y.1 = d) = true → ∃ (y_1 : Unit), y.2.2.set y.1.toNat y.2.1 = nl (d.toNat + (1 : Nat)) ∧ (17 : Nat) = (17 : Nat) ∧ (nl (d.toNat + (1 : Nat))).length = (17 : Nat) ∧ ∀ (a : List Int), a ∈ nl (d.toNat + (1 : Nat)) → a.length = (32 : Nat)) ∧ (decide (y.1 = d) = false → ∀ (y_1 : Unit), (shaF ([(1 : Int)] ++ y.2.1 ++ y.2.1)).length = (32 : Nat) → (shaF ([(1 : Int)] ++ y.2.1 ++ y.2.1)).length = (32 : Nat) → (-9223372036854775808 : Int) ≤ y.1 + (1 : Int) ∧ y.1 + (1 : Int) ≤ (9223372036854775807 : Int) ∧ ∃ (y_2 : Int × List Int × List (List Int)), y.1 + (1 : Int) = y_2.1 ∧ shaF ([(1 : Int)] ++ y.2.1 ++ y.2.1) = y_2.2.1 ∧ (32 : Nat) = (32 : Nat) ∧ r = r ∧ y.2.2.set y.1.toNat y.2.1 = y_2.2.2 ∧ (17 : Nat) = (17 : Nat) ∧ List.replicate (17 : Nat) (List.replicate (32 : Nat) (0 : Int)) = List.replicate (17 : Nat) (List.replicate (32 : Nat) (0 : Int)) ∧ (17 : Nat) = (17 : Nat) ∧ d = d ∧ (0 : Int) ≤ y_2.1 ∧ y_2.1 ≤ d ∧ y_2.2.1 = emp y_2.1.toNat ∧ y_2.2.2 = nl y_2.1.toNat ∧ (d - y_2.1).toNat < (d - y.1).toNat)) (by kernel_rfl) ?_⟩
  simp only [imin, imax, decide_eq_true_eq, decide_eq_false_iff_not, Prod.forall, Prod.exists, exists_eq_left', exists_eq_left, exists_and_left, exists_and_right, exists_eq_right, exists_eq, exists_eq', true_and, and_true, forall_const, exists_const, eq_self, Bool.not_eq_true, Bool.not_eq_eq_eq_not, Bool.not_true, Bool.not_false, Value.slice.injEq, Option.getD_some]
  intro h0 h1
  refine ⟨⟨by omega, by omega, rfl, rfl⟩, fun i h l hh hl hla _ h2 h3 h4 h5 => ⟨h2, by omega, by omega, fun h6 => ?_, fun h6 h7 _ => ⟨by omega, by omega, by omega, by omega, ?_, ?_, by omega⟩⟩⟩
  · subst h6
    exact ⟨by rw [nl, h5, h4], nl_length _, nl_all _⟩
  · rw [show (i + 1).toNat = i.toNat + 1 by omega, emp, h4]
  · rw [show (i + 1).toNat = i.toNat + 1 by omega, nl, h5, h4]
noncomputable def con_none_ : Con Xp.P FMp := ⟨114, sg_none_, pr_none_, ps_none_, vc_ok (La := la_none_) (Ca := ca_none_) 300 (fn := Go.Proofs.Try.f114) (by kernel_rfl) (c := cd_none_) (by kernel_rfl) (by kernel_rfl) (by kernel_rfl) (by kernel_rfl) (fun ⟨d, ⟨⟩⟩ => vc_none_ d)⟩

end Go.Pw
end
section
/-
  Walks by computing. No condition.
-/
set_option linter.all false
set_option maxRecDepth 100000
set_option maxHeartbeats 1000000
namespace Go.Pw
open Go Go.Px Go.RowKit
attribute [local irreducible] shaF

def pr2 (x y : List Int) : List Int := shaF ([1] ++ x ++ y)
def fldN (i : Nat) (ps : List (List Int)) (x : List Int) : Nat → List Int
  | 0 => x
  | k + 1 => if (i / 2 ^ k) % 2 = 0 then pr2 (fldN i ps x k) (ps.getD k (List.replicate 32 0)) else pr2 (ps.getD k (List.replicate 32 0)) (fldN i ps x k)
def fldOk (i : Int) (n : Nat) : Prop := n ≤ 16 ∧ 0 ≤ i ∧ i < 2 ^ n
instance (i : Int) (n : Nat) : Decidable (fldOk i n) := by unfold fldOk; infer_instance
def fldH (i : Int) (x : List Int) (ps : List (List Int)) : List Int := if fldOk i ps.length then fldN i.toNat ps x ps.length else List.replicate 32 0
def fldE (i : Int) (n : Nat) : Int := if fldOk i n then 0 else 2
def stp (e : List Int) (n : Nat) (k : Nat) (c : List (List Int)) : List (List Int) := c.set k (pr2 (c.getD (2 * k) (List.replicate 32 0)) (if 2 * k + 1 < n then c.getD (2 * k + 1) (List.replicate 32 0) else e))
def halfL (e : List Int) : List (List Int) → List (List Int)
  | [] => []
  | [x] => [pr2 x e]
  | x :: y :: r => pr2 x y :: halfL e r
def lvl (ls : List (List Int)) : Nat → List (List Int)
  | 0 => ls
  | d + 1 => halfL (emp d) (lvl ls d)
def rootH (d : Int) (ls : List (List Int)) : List Int := if askV d 0 ls.length = 0 then (lvl ls d.toNat).getD 0 (emp d.toNat) else List.replicate 32 0
theorem pr2_length (x y : List Int) : (pr2 x y).length = 32 := shaF_length _
theorem fldN_length {i : Nat} {ps : List (List Int)} {x : List Int} (hx : x.length = 32) : ∀ k, (fldN i ps x k).length = 32
  | 0 => hx
  | k + 1 => by rw [fldN]; split <;> exact pr2_length _ _
theorem fldH_length {i : Int} {ps : List (List Int)} {x : List Int} (hx : x.length = 32) : (fldH i x ps).length = 32 := by
  unfold fldH; split
  · exact fldN_length hx _
  · simp
theorem pow16 {n : Nat} (h : n ≤ 16) : (2 : Int) ^ n ≤ 65536 := by
  have : 2 ^ n ≤ 2 ^ 16 := Nat.pow_le_pow_right (by omega) h
  have e : ((2 ^ n : Nat) : Int) = (2 : Int) ^ n := by simp
  omega
theorem ask_fld {i : Int} {n : Nat} : askV n i 0 = 0 ↔ fldOk i n := by
  unfold askV fldOk
  rw [Int.toNat_natCast]
  have : (0 : Int) < 2 ^ n := Int.pow_pos (by omega)
  split
  · rename_i h; rw [if_neg (by omega)]; exact ⟨fun _ => ⟨by omega, h.2.2.1, h.2.2.2⟩, fun _ => rfl⟩
  · rename_i h; exact ⟨fun e => by omega, fun e => (h ⟨by omega, by omega, e.2.1, e.2.2⟩).elim⟩
theorem ask_root {d : Int} {n : Nat} (h : askV d 0 n = 0) : 0 ≤ d ∧ d ≤ 16 ∧ (n : Int) ≤ 2 ^ d.toNat ∧ n ≤ 65536 := by
  unfold askV at h
  split at h
  · rename_i h0
    split at h
    · cases h
    · have := pow16 (n := d.toNat) (by omega); exact ⟨h0.1, h0.2.1, by omega, by omega⟩
  · cases h
theorem bit0 {x : Int} (h0 : 0 ≤ x) (h1 : x < 65536) : bnd .i64 x 1 = ((x.toNat % 2 : Nat) : Int) := by
  have e : ((BitVec.ofInt 64 x &&& BitVec.ofInt 64 1).toNat : Int) = ((x.toNat % 2 : Nat) : Int) := by
    rw [BitVec.toNat_and, BitVec.toNat_ofInt, BitVec.toNat_ofInt]
    have e1 : (x % ((2 ^ 64 : Nat) : Int)).toNat = x.toNat := by rw [Int.emod_eq_of_lt h0 (by omega)]
    rw [e1]
    exact congrArg (fun n : Nat => (n : Int)) (Nat.and_one_is_mod x.toNat)
  show IntKind.i64.wrap ((BitVec.ofInt 64 x &&& BitVec.ofInt 64 1).toNat : Int) = _
  rw [e]
  have : x.toNat % 2 = 0 ∨ x.toNat % 2 = 1 := by omega
  rcases this with h | h <;> rw [h] <;> rfl
theorem shr_i {i d : Int} (h0 : 0 ≤ i) (h1 : 0 ≤ d) (h2 : d ≤ 16) : shrV .i64 i d = ((i.toNat / 2 ^ d.toNat : Nat) : Int) := by
  unfold shrV
  rw [show min d.toNat IntKind.i64.bits = d.toNat from Nat.min_eq_left (by show d.toNat ≤ 64; omega), Int.fdiv_eq_ediv_of_nonneg _ (Int.le_of_lt (Int.pow_pos (by omega)))]
  have e : ((2 ^ d.toNat : Nat) : Int) = (2 : Int) ^ d.toNat := by simp
  rw [← e, Int.natCast_ediv, Int.toNat_of_nonneg h0]
theorem bit_i {i d : Int} (h0 : 0 ≤ i) (hi : i < 65536) (h1 : 0 ≤ d) (h2 : d ≤ 16) : bnd .i64 (shrV .i64 i d) 1 = 0 ↔ (i.toNat / 2 ^ d.toNat) % 2 = 0 := by
  have hm := Nat.div_le_self i.toNat (2 ^ d.toNat)
  rw [shr_i h0 h1 h2]
  generalize i.toNat / 2 ^ d.toNat = m at hm ⊢
  rw [bit0 (by omega) (by omega), Int.toNat_natCast]
  omega
theorem halfL_length {e : List Int} : ∀ l : List (List Int), (halfL e l).length = (l.length + 1) / 2
  | [] => rfl
  | [_] => by simp [halfL]
  | _ :: _ :: r => by simp only [halfL, List.length_cons, halfL_length r]; omega
theorem halfL_getD {e : List Int} : ∀ (l : List (List Int)) (j : Nat), j < (l.length + 1) / 2 → (halfL e l).getD j (List.replicate 32 0) = pr2 (l.getD (2 * j) (List.replicate 32 0)) (if 2 * j + 1 < l.length then l.getD (2 * j + 1) (List.replicate 32 0) else e)
  | [], j, h => by simp at h
  | [x], j, h => by
    have : j = 0 := by simp at h; omega
    subst this; rfl
  | x :: y :: r, 0, _ => by simp [halfL]
  | x :: y :: r, j + 1, h => by
    have := halfL_getD (e := e) r j (by simp at h; omega)
    rw [halfL, List.getD_cons_succ, this, show 2 * (j + 1) = 2 * j + 1 + 1 by omega, List.getD_cons_succ, List.getD_cons_succ, List.getD_cons_succ, List.getD_cons_succ]
    simp only [List.length_cons, show (2 * j + 1 + 1 + 1 < r.length + 1 + 1) = (2 * j + 1 < r.length) from propext (by omega)]
theorem stp_getD {e : List Int} {n : Nat} {c : List (List Int)} (hc : n ≤ c.length) : ∀ k, 2 * k ≤ n + 1 → (itN (stp e n) k c).length = c.length ∧ ∀ j, (itN (stp e n) k c).getD j (List.replicate 32 0) = if j < k then pr2 (c.getD (2 * j) (List.replicate 32 0)) (if 2 * j + 1 < n then c.getD (2 * j + 1) (List.replicate 32 0) else e) else c.getD j (List.replicate 32 0)
  | 0, _ => ⟨rfl, fun j => by rw [itN, if_neg (by omega)]⟩
  | k + 1, h => by
    obtain ⟨h1, h2⟩ := stp_getD hc k (by omega)
    have e1 := h2 (2 * k)
    have e2 := h2 (2 * k + 1)
    rw [if_neg (by omega)] at e1 e2
    rw [itN, stp, e1, e2]
    generalize itN (stp e n) k c = q at h1 h2
    refine ⟨by rw [List.length_set, h1], fun j => ?_⟩
    by_cases hj : j = k
    · subst hj
      rw [if_pos (show j < j + 1 by omega)]
      simp [List.getD_eq_getElem?_getD, List.getElem?_set, h1, show j < c.length by omega]
    · have e3 : (q.set k (pr2 (c.getD (2 * k) (List.replicate 32 0)) (if 2 * k + 1 < n then c.getD (2 * k + 1) (List.replicate 32 0) else e))).getD j (List.replicate 32 0) = q.getD j (List.replicate 32 0) := by
        simp [List.getD_eq_getElem?_getD, List.getElem?_set, show ¬ k = j by omega]
      rw [e3, h2 j]
      by_cases hk : j < k
      · rw [if_pos hk, if_pos (show j < k + 1 by omega)]
      · rw [if_neg hk, if_neg (show ¬ j < k + 1 by omega)]
theorem getD_lt {α : Type} {l : List α} {i : Nat} (h : i < l.length) (d : α) : l.getD i d = l[i] := by simp [List.getD_eq_getElem?_getD, List.getElem?_eq_getElem h]
theorem take_stp {e : List Int} {n k : Nat} {c : List (List Int)} (hc : n ≤ c.length) (hk : k = (n + 1) / 2) : (itN (stp e n) k c).take k = halfL e (c.take n) := by
  obtain ⟨h1, h2⟩ := stp_getD (e := e) hc k (by omega)
  have hl : (c.take n).length = n := by rw [List.length_take]; omega
  refine List.ext_getElem (by rw [List.length_take, h1, halfL_length, hl]; omega) fun i hi hi' => ?_
  rw [List.length_take] at hi
  rw [halfL_length, hl] at hi'
  have e3 := h2 i
  have e4 := halfL_getD (e := e) (c.take n) i (by rw [hl]; omega)
  rw [if_pos (by omega)] at e3
  rw [hl] at e4
  have t1 : ∀ j, j < n → (c.take n).getD j (List.replicate 32 0) = c.getD j (List.replicate 32 0) := fun j hj => by simp [List.getD_eq_getElem?_getD, List.getElem?_take, hj]
  rw [t1 _ (by omega)] at e4
  rw [List.getElem_take, ← getD_lt (d := List.replicate 32 0), e3, ← getD_lt (d := List.replicate 32 0), e4]
  by_cases hb : 2 * i + 1 < n
  · rw [if_pos hb, if_pos hb, t1 _ hb]
  · rw [if_neg hb, if_neg hb]
theorem mem_getD {l : List (List Int)} {n i : Nat} (h : ∀ a ∈ l, a.length = n) (hi : i < l.length) (d : List Int) : (l.getD i d).length = n := by rw [getD_lt hi]; exact h _ (List.getElem_mem hi)
theorem BY32 : Go.Proofs.Try.prog.types[40].bytes = 32 := by kernel_rfl
def la_F (S : SS FMp) (id : Nat) : List (List Int) := match pcAt S.m id with
  | some (_, p) => match p.ce with
    | [.f 0 l _] => l
    | _ => []
  | none => []
def la_n (S : SS FMp) (t : Nat) : Nat := match lookS S.T t with
  | some (.v (.one (.sc _ _ n _ _))) => n
  | _ => 0
def la_q (S : SS FMp) (t : Nat) : Nat := match lookS S.T t with
  | some (.v (.one (.sc _ _ _ q _))) => q
  | _ => 0

noncomputable def cd_fold : Code := (Go.Proofs.Try.f96.body).getD .skip
def sg_fold : List Arg := [.one (.int .i64), .ag [.arr .u8 32], .one (.slr 0)]
def pr_fold : SgT FMp sg_fold → List Prop
  | (i, ((x, ()), ((A, (ps, c)), ()))) => (fun (i : Int) (x : List Int) (A : Option Addr) (ps : List (List Int)) (c : Nat) => ([] : List Prop)) i x A ps c
def ps_fold : SgT FMp sg_fold → PS FMp
  | (i, ((x, ()), ((A, (ps, c)), ()))) => (fun (i : Int) (x : List Int) (A : Option Addr) (ps : List (List Int)) (c : Nat) => (⟨Unit, fun y => [], fun y => .tup [.ag (zz .u8 (fldH i x ps) 32), .one (.xv (.int .i64 (fldE i ps.length)))], fun y => [], fun y => [(fldH i x ps).length = 32]⟩ : PS FMp)) i x A ps c
def la_fold : SgT FMp sg_fold → List (Nat × (SS FMp → HA FMp))
  | (i, ((x, ()), ((A, (ps, c)), ()))) => (fun (i : Int) (x : List Int) (A : Option Addr) (ps : List (List Int)) (c : Nat) => ([(4, fun S => ⟨Int × (List Int), fun y => [], fun n y => [(23, some (one (.int .i64 (y.1))))], fun n y => setId S.m 1 (zz .u8 y.2 32), fun y => [0 ≤ y.1, y.1 ≤ ps.length, y.2 = fldN i.toNat ps x y.1.toNat], fun y => (ps.length - y.1).toNat⟩)] : List (Nat × (SS FMp → HA FMp)))) i x A ps c
def ca_fold : SgT FMp sg_fold → List (Nat × (SS FMp → HA FMp))
  | (i, ((x, ()), ((A, (ps, c)), ()))) => (fun (i : Int) (x : List Int) (A : Option Addr) (ps : List (List Int)) (c : Nat) => ([] : List (Nat × (SS FMp → HA FMp)))) i x A ps c
theorem vc_fold (i : Int) (x : List Int) (A : Option Addr) (ps : List (List Int)) (c : Nat) : Vc (vc (FM := FMp) Xp 41 [con_asked, con_pair] (la_fold (i, ((x, ()), ((A, (ps, c)), ())))) (ca_fold (i, ((x, ()), ((A, (ps, c)), ())))) [] [] [.cell 6 40, .tmp 7] sg_fold pr_fold ps_fold cd_fold 300 (i, ((x, ()), ((A, (ps, c)), ())))) := by
  refine ⟨Eq.mpr (β := x.length = (32 : Nat) → (∀ (a : List Int), a ∈ ps → a.length = (32 : Nat)) → ∀ (b b : Nat), (decide ((16 : Int) < (↑ps.length : Int)) = true → ∃ (y : Unit), List.replicate (32 : Nat) (0 : Int) = fldH i x ps ∧ (32 : Nat) = (32 : Nat) ∧ (2 : Int) = fldE i ps.length ∧ (fldH i x ps).length = (32 : Nat)) ∧ (decide ((16 : Int) < (↑ps.length : Int)) = false → ∀ (y : Unit), ((!decide (askV (↑ps.length : Int) i (0 : Int) = (0 : Int))) = true → ∃ (y : Unit), List.replicate (32 : Nat) (0 : Int) = fldH i x ps ∧ (32 : Nat) = (32 : Nat) ∧ (2 : Int) = fldE i ps.length ∧ (fldH i x ps).length = (32 : Nat)) ∧ ((!decide (askV (↑ps.length : Int) i (0 : Int) = (0 : Int))) = false → (∃ (y : Int × List Int), (0 : Int) = y.1 ∧ List.replicate (32 : Nat) (0 : Int) = List.replicate (32 : Nat) (0 : Int) ∧ (32 : Nat) = (32 : Nat) ∧ x = y.2 ∧ (32 : Nat) = (32 : Nat) ∧ (0 : Int) ≤ y.1 ∧ y.1 ≤ (↑ps.length : Int) ∧ y.2 = fldN i.toNat ps x y.1.toNat) ∧ ∀ (y : Int × List Int), (32 : Nat) = (32 : Nat) → y.2.length = (32 : Nat) → (0 : Int) ≤ y.1 → y.1 ≤ (↑ps.length : Int) → y.2 = fldN i.toNat ps x y.1.toNat → (decide (y.1 < (↑ps.length : Int)) = true → (0 : Int) ≤ y.1 ∧ y.1 < (↑ps.length : Int) ∧ y.1.toNat < ps.length ∧ y.1.toNat < ps.length ∧ ∀ (b : Nat), (0 : Int) ≤ y.1 ∧ (decide (bnd IntKind.i64 (shrV IntKind.i64 i y.1) (1 : Int) = (0 : Int)) = true → ∀ (y_1 : Unit), (shaF ([(1 : Int)] ++ y.2 ++ ps.getD y.1.toNat (List.replicate (32 : Nat) (0 : Int)))).length = (32 : Nat) → (shaF ([(1 : Int)] ++ y.2 ++ ps.getD y.1.toNat (List.replicate (32 : Nat) (0 : Int)))).length = (32 : Nat) → (-9223372036854775808 : Int) ≤ y.1 + (1 : Int) ∧ y.1 + (1 : Int) ≤ (9223372036854775807 : Int) ∧ ∃ (y_2 : Int × List Int), y.1 + (1 : Int) = y_2.1 ∧ List.replicate (32 : Nat) (0 : Int) = List.replicate (32 : Nat) (0 : Int) ∧ (32 : Nat) = (32 : Nat) ∧ shaF ([(1 : Int)] ++ y.2 ++ ps.getD y.1.toNat (List.replicate (32 : Nat) (0 : Int))) = y_2.2 ∧ (32 : Nat) = (32 : Nat) ∧ (0 : Int) ≤ y_2.1 ∧ y_2.1 ≤ (↑ps.length : Int) ∧ y_2.2 = fldN i.toNat ps x y_2.1.toNat ∧ ((↑ps.length : Int) - y_2.1).toNat < ((↑ps.length : Int) - y.1).toNat) ∧ (decide (bnd IntKind.i64 (shrV IntKind.i64 i y.1) (1 : Int) = (0 : Int)) = false → ∀ (y_1 : Unit), (shaF ([(1 : Int)] ++ ps.getD y.1.toNat (List.replicate (32 : Nat) (0 : Int)) ++ y.2)).length = (32 : Nat) → (shaF ([(1 : Int)] ++ ps.getD y.1.toNat (List.replicate (32 : Nat) (0 : Int)) ++ y.2)).length = (32 : Nat) → (-9223372036854775808 : Int) ≤ y.1 + (1 : Int) ∧ y.1 + (1 : Int) ≤ (9223372036854775807 : Int) ∧ ∃ (y_2 : Int × List Int), y.1 + (1 : Int) = y_2.1 ∧ List.replicate (32 : Nat) (0 : Int) = List.replicate (32 : Nat) (0 : Int) ∧ (32 : Nat) = (32 : Nat) ∧ shaF ([(1 : Int)] ++ ps.getD y.1.toNat (List.replicate (32 : Nat) (0 : Int)) ++ y.2) = y_2.2 ∧ (32 : Nat) = (32 : Nat) ∧ (0 : Int) ≤ y_2.1 ∧ y_2.1 ≤ (↑ps.length : Int) ∧ y_2.2 = fldN i.toNat ps x y_2.1.toNat ∧ ((↑ps.length : Int) - y_2.1).toNat < ((↑ps.length : Int) - y.1).toNat)) ∧ (decide (y.1 < (↑ps.length : Int)) = false → ∃ (y_1 : Unit), y.2 = fldH i x ps ∧ (32 : Nat) = (32 : Nat) ∧ (0 : Int) = fldE i ps.length ∧ (fldH i x ps).length = (32 : Nat))))) (by kernel_rfl) ?_⟩
  simp only [imin, imax, decide_eq_true_eq, decide_eq_false_iff_not, Prod.forall, Prod.exists, exists_eq_left', exists_eq_left, exists_and_left, exists_and_right, exists_eq_right, exists_eq, exists_eq', true_and, and_true, forall_const, exists_const, eq_self, Bool.not_eq_true, Bool.not_eq_eq_eq_not, Bool.not_true, Bool.not_false, Value.slice.injEq, Option.getD_some]
  intro hx hps
  have hlen := fldH_length (i := i) (ps := ps) hx
  refine ⟨fun h => ?_, fun h => ⟨fun h1 => ?_, fun h1 => ⟨⟨by omega, by omega, rfl⟩, fun d v hv h2 h3 h4 => ⟨fun h5 => ?_, fun h5 => ?_⟩⟩⟩⟩
  · have hn : ¬ fldOk i ps.length := fun e => by have := e.1; omega
    exact ⟨by rw [fldH, if_neg hn], by rw [fldE, if_neg hn], hlen⟩
  · have hn : ¬ fldOk i ps.length := fun e => h1 (ask_fld.2 e)
    exact ⟨by rw [fldH, if_neg hn], by rw [fldE, if_neg hn], hlen⟩
  · have ho := ask_fld.1 h1
    have h16 := pow16 ho.1
    have hb := bit_i (i := i) (d := d) ho.2.1 (by have := ho.2.2; omega) h2 (by omega)
    refine ⟨by omega, by omega, by omega, by omega, by omega, fun h6 _ _ => ⟨by omega, by omega, by omega, by omega, ?_, by omega⟩, fun h6 _ _ => ⟨by omega, by omega, by omega, by omega, ?_, by omega⟩⟩
    · rw [show (d + 1).toNat = d.toNat + 1 by omega, fldN, if_pos (hb.1 h6), pr2, h4]
    · rw [show (d + 1).toNat = d.toNat + 1 by omega, fldN, if_neg (fun e => h6 (hb.2 e)), pr2, h4]
  · have ho := ask_fld.1 h1
    exact ⟨by rw [fldH, if_pos ho, h4, show d.toNat = ps.length by omega], by rw [fldE, if_pos ho], hlen⟩
noncomputable def con_fold : Con Xp.P FMp := ⟨96, sg_fold, pr_fold, ps_fold, vc_ok (La := la_fold) (Ca := ca_fold) 300 (fn := Go.Proofs.Try.f96) (by kernel_rfl) (c := cd_fold) (by kernel_rfl) (by kernel_rfl) (by kernel_rfl) (by kernel_rfl) (fun ⟨i, ⟨⟨x, ⟨⟩⟩, ⟨⟨A, ⟨ps, c⟩⟩, ⟨⟩⟩⟩⟩ => vc_fold i x A ps c)⟩
noncomputable def cd_mroot : Code := (Go.Proofs.Try.f94.body).getD .skip
def sg_mroot : List Arg := [.one (.int .i64), .one (.slr 0)]
def pr_mroot : SgT FMp sg_mroot → List Prop
  | (d, ((A, (ls, c)), ())) => (fun (d : Int) (A : Option Addr) (ls : List (List Int)) (c : Nat) => ([] : List Prop)) d A ls c
def ps_mroot : SgT FMp sg_mroot → PS FMp
  | (d, ((A, (ls, c)), ())) => (fun (d : Int) (A : Option Addr) (ls : List (List Int)) (c : Nat) => (⟨Unit, fun y => [], fun y => .tup [.ag (zz .u8 (rootH d ls) 32), .one (.xv (.int .i64 (askV d 0 ls.length)))], fun y => [], fun y => [(rootH d ls).length = 32]⟩ : PS FMp)) d A ls c
def la_mroot : SgT FMp sg_mroot → List (Nat × (SS FMp → HA FMp))
  | (d, ((A, (ls, c)), ())) => (fun (d : Int) (A : Option Addr) (ls : List (List Int)) (c : Nat) => ([(11600003, fun S => ⟨Int × Nat × (List (List Int)), fun y => [], fun n y => [(19, some (one (.int .i64 (y.1)))), (11, some (.v (.one (.sc 4 0 y.2.1 (la_q S 11) true))))], fun n y => setId S.m 4 [.f 0 y.2.2 ls.length], fun y => [0 ≤ y.1, y.1 ≤ d, y.2.1 ≤ ls.length, y.2.2.take y.2.1 = lvl ls y.1.toNat], fun y => (d - y.1).toNat⟩), (11600008, fun S => ⟨Int × Int × (List (List Int)), fun y => [], fun n y => [(13, some (one (.int .i64 (y.1)))), (14, some (one (.int .i64 (y.2.1))))], fun n y => setId S.m 4 [.f 0 y.2.2 ls.length], fun y => [0 ≤ y.1, y.2.1 = 2 * y.1, y.2.1 ≤ la_n S 11 + 1, y.2.2 = itN (stp (emp (la_i S 12).toNat) (la_n S 11)) y.1.toNat (la_F S 4)], fun y => (la_n S 11 + 2 - y.2.1).toNat⟩)] : List (Nat × (SS FMp → HA FMp)))) d A ls c
def ca_mroot : SgT FMp sg_mroot → List (Nat × (SS FMp → HA FMp))
  | (d, ((A, (ls, c)), ())) => (fun (d : Int) (A : Option Addr) (ls : List (List Int)) (c : Nat) => ([] : List (Nat × (SS FMp → HA FMp)))) d A ls c
theorem vc_mroot (d : Int) (A : Option Addr) (ls : List (List Int)) (c : Nat) : Vc (vc (FM := FMp) Xp 22 [con_asked, con_none_, con_pair] (la_mroot (d, ((A, (ls, c)), ()))) (ca_mroot (d, ((A, (ls, c)), ()))) [] [115, 116, 117] [.cell 4 40, .tmp 5] sg_mroot pr_mroot ps_mroot cd_mroot 300 (d, ((A, (ls, c)), ()))) := by
  refine ⟨Eq.mpr (β := (∀ (a : List Int), a ∈ ls → a.length = (32 : Nat)) → ∀ (b : Nat) (y : Unit), ((!decide (askV d (0 : Int) (↑ls.length : Int) = (0 : Int))) = true → ∃ (y : Unit), List.replicate (32 : Nat) (0 : Int) = rootH d ls ∧ (32 : Nat) = (32 : Nat) ∧ askV d (0 : Int) (↑ls.length : Int) = askV d (0 : Int) (↑ls.length : Int) ∧ (rootH d ls).length = (32 : Nat)) ∧ ((!decide (askV d (0 : Int) (↑ls.length : Int) = (0 : Int))) = false → (0 : Int) ≤ d ∧ d ≤ (16 : Int) ∧ ∀ (y : Unit), (nl (d.toNat + (1 : Nat))).length = (17 : Nat) → (∀ (a : List Int), a ∈ nl (d.toNat + (1 : Nat)) → a.length = (32 : Nat)) → (nl (d.toNat + (1 : Nat))).length = (17 : Nat) → (∀ (a : List Int), a ∈ nl (d.toNat + (1 : Nat)) → a.length = (32 : Nat)) → ∀ (b b : Nat), ls.length = ls.length ∧ ls.length * Proofs.Try.prog.types[(40 : Nat)].bytes ≤ (140737488355328 : Nat) ∧ ∀ (A : Option Addr) (q : Nat), ls.length ≤ q → (∃ (y : Int × Nat × List (List Int)), (0 : Int) = y.1 ∧ ls.length = y.2.1 ∧ q = q ∧ ls.length = ls.length ∧ q = q ∧ ls = y.2.2 ∧ ls.length = ls.length ∧ List.replicate (32 : Nat) (0 : Int) = List.replicate (32 : Nat) (0 : Int) ∧ (32 : Nat) = (32 : Nat) ∧ nl (d.toNat + (1 : Nat)) = nl (d.toNat + (1 : Nat)) ∧ (17 : Nat) = (17 : Nat) ∧ List.replicate (32 : Nat) (0 : Int) = List.replicate (32 : Nat) (0 : Int) ∧ (32 : Nat) = (32 : Nat) ∧ (0 : Int) ≤ y.1 ∧ y.1 ≤ d ∧ y.2.1 ≤ ls.length ∧ List.take y.2.1 y.2.2 = lvl ls y.1.toNat) ∧ ∀ (y : Int × Nat × List (List Int)), y.2.2.length = ls.length → (∀ (a : List Int), a ∈ y.2.2 → a.length = (32 : Nat)) → (32 : Nat) = (32 : Nat) → (nl (d.toNat + (1 : Nat))).length = (17 : Nat) → (∀ (a : List Int), a ∈ nl (d.toNat + (1 : Nat)) → a.length = (32 : Nat)) → (32 : Nat) = (32 : Nat) → (0 : Int) ≤ y.1 → y.1 ≤ d → y.2.1 ≤ ls.length → List.take y.2.1 y.2.2 = lvl ls y.1.toNat → (decide (y.1 < d) = true → (∃ (y_1 : Int × Int × List (List Int)), (0 : Int) = y_1.1 ∧ (0 : Int) = y_1.2.1 ∧ ls.length = ls.length ∧ q = q ∧ y.2.2 = y_1.2.2 ∧ ls.length = ls.length ∧ List.replicate (32 : Nat) (0 : Int) = List.replicate (32 : Nat) (0 : Int) ∧ (32 : Nat) = (32 : Nat) ∧ nl (d.toNat + (1 : Nat)) = nl (d.toNat + (1 : Nat)) ∧ (17 : Nat) = (17 : Nat) ∧ List.replicate (32 : Nat) (0 : Int) = List.replicate (32 : Nat) (0 : Int) ∧ (32 : Nat) = (32 : Nat) ∧ (0 : Int) ≤ y_1.1 ∧ y_1.2.1 = (2 : Int) * y_1.1 ∧ y_1.2.1 ≤ (↑y.2.1 : Int) + (1 : Int) ∧ y_1.2.2 = itN (stp (emp y.1.toNat) y.2.1) y_1.1.toNat y.2.2) ∧ ∀ (y_1 : Int × Int × List (List Int)), y_1.2.2.length = ls.length → (∀ (a : List Int), a ∈ y_1.2.2 → a.length = (32 : Nat)) → (32 : Nat) = (32 : Nat) → (nl (d.toNat + (1 : Nat))).length = (17 : Nat) → (∀ (a : List Int), a ∈ nl (d.toNat + (1 : Nat)) → a.length = (32 : Nat)) → (32 : Nat) = (32 : Nat) → (0 : Int) ≤ y_1.1 → y_1.2.1 = (2 : Int) * y_1.1 → y_1.2.1 ≤ (↑y.2.1 : Int) + (1 : Int) → y_1.2.2 = itN (stp (emp y.1.toNat) y.2.1) y_1.1.toNat y.2.2 → (decide (y_1.2.1 < (↑y.2.1 : Int)) = true → ∀ (b : Nat), (0 : Int) ≤ y.1 ∧ y.1 < (17 : Int) ∧ y.1.toNat < (17 : Nat) ∧ ∀ (b : Nat), (-9223372036854775808 : Int) ≤ y_1.2.1 + (1 : Int) ∧ y_1.2.1 + (1 : Int) ≤ (9223372036854775807 : Int) ∧ (decide (y_1.2.1 + (1 : Int) < (↑y.2.1 : Int)) = true → (-9223372036854775808 : Int) ≤ y_1.2.1 + (1 : Int) ∧ y_1.2.1 + (1 : Int) ≤ (9223372036854775807 : Int) ∧ (0 : Int) ≤ y_1.2.1 + (1 : Int) ∧ y_1.2.1 + (1 : Int) < (↑y.2.1 : Int) ∧ (y_1.2.1 + (1 : Int)).toNat < ls.length ∧ (y_1.2.1 + (1 : Int)).toNat < ls.length ∧ (0 : Int) ≤ y_1.2.1 ∧ y_1.2.1 < (↑y.2.1 : Int) ∧ y_1.2.1.toNat < ls.length ∧ y_1.2.1.toNat < ls.length ∧ ∀ (y_2 : Unit), (shaF ([(1 : Int)] ++ y_1.2.2.getD y_1.2.1.toNat (List.replicate (32 : Nat) (0 : Int)) ++ y_1.2.2.getD (y_1.2.1 + (1 : Int)).toNat (List.replicate (32 : Nat) (0 : Int)))).length = (32 : Nat) → (shaF ([(1 : Int)] ++ y_1.2.2.getD y_1.2.1.toNat (List.replicate (32 : Nat) (0 : Int)) ++ y_1.2.2.getD (y_1.2.1 + (1 : Int)).toNat (List.replicate (32 : Nat) (0 : Int)))).length = (32 : Nat) → (0 : Int) ≤ y_1.1 ∧ y_1.1 < (↑y.2.1 : Int) ∧ y_1.1.toNat < ls.length ∧ y_1.1.toNat < ls.length ∧ (-9223372036854775808 : Int) ≤ y_1.1 + (1 : Int) ∧ y_1.1 + (1 : Int) ≤ (9223372036854775807 : Int) ∧ (-9223372036854775808 : Int) ≤ y_1.2.1 + (2 : Int) ∧ y_1.2.1 + (2 : Int) ≤ (9223372036854775807 : Int) ∧ ∃ (y_3 : Int × Int × List (List Int)), y_1.1 + (1 : Int) = y_3.1 ∧ y_1.2.1 + (2 : Int) = y_3.2.1 ∧ ls.length = ls.length ∧ q = q ∧ y_1.2.2.set y_1.1.toNat (shaF ([(1 : Int)] ++ y_1.2.2.getD y_1.2.1.toNat (List.replicate (32 : Nat) (0 : Int)) ++ y_1.2.2.getD (y_1.2.1 + (1 : Int)).toNat (List.replicate (32 : Nat) (0 : Int)))) = y_3.2.2 ∧ ls.length = ls.length ∧ List.replicate (32 : Nat) (0 : Int) = List.replicate (32 : Nat) (0 : Int) ∧ (32 : Nat) = (32 : Nat) ∧ nl (d.toNat + (1 : Nat)) = nl (d.toNat + (1 : Nat)) ∧ (17 : Nat) = (17 : Nat) ∧ List.replicate (32 : Nat) (0 : Int) = List.replicate (32 : Nat) (0 : Int) ∧ (32 : Nat) = (32 : Nat) ∧ (0 : Int) ≤ y_3.1 ∧ y_3.2.1 = (2 : Int) * y_3.1 ∧ y_3.2.1 ≤ (↑y.2.1 : Int) + (1 : Int) ∧ y_3.2.2 = itN (stp (emp y.1.toNat) y.2.1) y_3.1.toNat y.2.2 ∧ ((↑y.2.1 : Int) + (2 : Int) - y_3.2.1).toNat < ((↑y.2.1 : Int) + (2 : Int) - y_1.2.1).toNat) ∧ (decide (y_1.2.1 + (1 : Int) < (↑y.2.1 : Int)) = false → (0 : Int) ≤ y_1.2.1 ∧ y_1.2.1 < (↑y.2.1 : Int) ∧ y_1.2.1.toNat < ls.length ∧ y_1.2.1.toNat < ls.length ∧ ∀ (y_2 : Unit), (shaF ([(1 : Int)] ++ y_1.2.2.getD y_1.2.1.toNat (List.replicate (32 : Nat) (0 : Int)) ++ (nl (d.toNat + (1 : Nat))).getD y.1.toNat (List.replicate (32 : Nat) (0 : Int)))).length = (32 : Nat) → (shaF ([(1 : Int)] ++ y_1.2.2.getD y_1.2.1.toNat (List.replicate (32 : Nat) (0 : Int)) ++ (nl (d.toNat + (1 : Nat))).getD y.1.toNat (List.replicate (32 : Nat) (0 : Int)))).length = (32 : Nat) → (0 : Int) ≤ y_1.1 ∧ y_1.1 < (↑y.2.1 : Int) ∧ y_1.1.toNat < ls.length ∧ y_1.1.toNat < ls.length ∧ (-9223372036854775808 : Int) ≤ y_1.1 + (1 : Int) ∧ y_1.1 + (1 : Int) ≤ (9223372036854775807 : Int) ∧ (-9223372036854775808 : Int) ≤ y_1.2.1 + (2 : Int) ∧ y_1.2.1 + (2 : Int) ≤ (9223372036854775807 : Int) ∧ ∃ (y_3 : Int × Int × List (List Int)), y_1.1 + (1 : Int) = y_3.1 ∧ y_1.2.1 + (2 : Int) = y_3.2.1 ∧ ls.length = ls.length ∧ q = q ∧ y_1.2.2.set y_1.1.toNat (shaF ([(1 : Int)] ++ y_1.2.2.getD y_1.2.1.toNat (List.replicate (32 : Nat) (0 : Int)) ++ (nl (d.toNat + (1 : Nat))).getD y.1.toNat (List.replicate (32 : Nat) (0 : Int)))) = y_3.2.2 ∧ ls.length = ls.length ∧ List.replicate (32 : Nat) (0 : Int) = List.replicate (32 : Nat) (0 : Int) ∧ (32 : Nat) = (32 : Nat) ∧ nl (d.toNat + (1 : Nat)) = nl (d.toNat + (1 : Nat)) ∧ (17 : Nat) = (17 : Nat) ∧ List.replicate (32 : Nat) (0 : Int) = List.replicate (32 : Nat) (0 : Int) ∧ (32 : Nat) = (32 : Nat) ∧ (0 : Int) ≤ y_3.1 ∧ y_3.2.1 = (2 : Int) * y_3.1 ∧ y_3.2.1 ≤ (↑y.2.1 : Int) + (1 : Int) ∧ y_3.2.2 = itN (stp (emp y.1.toNat) y.2.1) y_3.1.toNat y.2.2 ∧ ((↑y.2.1 : Int) + (2 : Int) - y_3.2.1).toNat < ((↑y.2.1 : Int) + (2 : Int) - y_1.2.1).toNat)) ∧ (decide (y_1.2.1 < (↑y.2.1 : Int)) = false → (0 : Int) ≤ y_1.1 ∧ y_1.1 ≤ (↑q : Int) ∧ (-9223372036854775808 : Int) ≤ y.1 + (1 : Int) ∧ y.1 + (1 : Int) ≤ (9223372036854775807 : Int) ∧ ∃ (y_2 : Int × Nat × List (List Int)), y.1 + (1 : Int) = y_2.1 ∧ y_1.1.toNat = y_2.2.1 ∧ q = q ∧ ls.length = ls.length ∧ q = q ∧ y_1.2.2 = y_2.2.2 ∧ ls.length = ls.length ∧ List.replicate (32 : Nat) (0 : Int) = List.replicate (32 : Nat) (0 : Int) ∧ (32 : Nat) = (32 : Nat) ∧ nl (d.toNat + (1 : Nat)) = nl (d.toNat + (1 : Nat)) ∧ (17 : Nat) = (17 : Nat) ∧ List.replicate (32 : Nat) (0 : Int) = List.replicate (32 : Nat) (0 : Int) ∧ (32 : Nat) = (32 : Nat) ∧ (0 : Int) ≤ y_2.1 ∧ y_2.1 ≤ d ∧ y_2.2.1 ≤ ls.length ∧ List.take y_2.2.1 y_2.2.2 = lvl ls y_2.1.toNat ∧ (d - y_2.1).toNat < (d - y.1).toNat)) ∧ (decide (y.1 < d) = false → (decide ((↑y.2.1 : Int) = (0 : Int)) = true → ∀ (b : Nat), (0 : Int) ≤ d ∧ d < (17 : Int) ∧ d.toNat < (17 : Nat) ∧ ∃ (y : Unit), (nl (d.toNat + (1 : Nat))).getD d.toNat (List.replicate (32 : Nat) (0 : Int)) = rootH d ls ∧ (32 : Nat) = (32 : Nat) ∧ (0 : Int) = askV d (0 : Int) (↑ls.length : Int) ∧ (rootH d ls).length = (32 : Nat)) ∧ (decide ((↑y.2.1 : Int) = (0 : Int)) = false → (0 : Int) ≤ (0 : Int) ∧ (0 : Int) < (↑y.2.1 : Int) ∧ (0 : Nat) < ls.length ∧ (0 : Nat) < ls.length ∧ ∃ (y_1 : Unit), y.2.2.getD (0 : Nat) (List.replicate (32 : Nat) (0 : Int)) = rootH d ls ∧ (32 : Nat) = (32 : Nat) ∧ (0 : Int) = askV d (0 : Int) (↑ls.length : Int) ∧ (rootH d ls).length = (32 : Nat))))) (by kernel_rfl) ?_⟩
  simp only [imin, imax, decide_eq_true_eq, decide_eq_false_iff_not, Prod.forall, Prod.exists, exists_eq_left', exists_eq_left, exists_and_left, exists_and_right, exists_eq_right, exists_eq, exists_eq', true_and, and_true, forall_const, exists_const, eq_self, Bool.not_eq_true, Bool.not_eq_eq_eq_not, Bool.not_true, Bool.not_false, Value.slice.injEq, Option.getD_some]
  intro hls
  refine ⟨fun h => ⟨by rw [rootH, if_neg h], by rw [rootH, if_neg h]; simp⟩, fun h => ?_⟩
  obtain ⟨hd0, hd1, hn, hn2⟩ := ask_root h
  refine ⟨hd0, hd1, fun _ _ _ _ => ⟨by rw [BY32]; omega, fun q hq => ⟨⟨by omega, by omega, by omega, by simp [lvl]⟩, fun t k c hc hca _ _ h1 h2 h3 h4 => ⟨fun h5 => ⟨⟨by omega, by omega, by omega, by rw [Int.toNat_zero, itN]⟩, fun hh i q' hq' hqa _ _ h6 h7 h8 h9 => ⟨fun h10 => ?_, fun h10 => ?_⟩⟩, fun h5 => ⟨fun h6 => ?_, fun h6 => ?_⟩⟩⟩⟩⟩
  · subst h7
    refine ⟨by omega, by omega, by omega, by omega, by omega, fun h11 => ⟨by omega, by omega, by omega, by omega, by omega, by omega, by omega, by omega, by omega, by omega, fun _ _ => ?_⟩, fun h11 => ⟨by omega, by omega, by omega, by omega, fun _ _ => ?_⟩⟩
    · repeat refine ⟨by first | omega | with_reducible assumption | with_reducible rfl, ?_⟩
      refine ⟨?_, by omega⟩
      rw [show (hh + 1).toNat = hh.toNat + 1 by omega, itN, stp, ← h9, if_pos (by omega), pr2, show (2 * hh + 1).toNat = 2 * hh.toNat + 1 by omega, show (2 * hh).toNat = 2 * hh.toNat by omega]
    · repeat refine ⟨by first | omega | with_reducible assumption | with_reducible rfl, ?_⟩
      refine ⟨?_, by omega⟩
      rw [show (hh + 1).toNat = hh.toNat + 1 by omega, itN, stp, ← h9, if_neg (by omega), pr2, show (2 * hh).toNat = 2 * hh.toNat by omega, nl_get _ _ (by omega) (by omega)]
  · refine ⟨by omega, by omega, by omega, by omega, by omega, by omega, by omega, ?_, by omega⟩
    rw [h9, show (t + 1).toNat = t.toNat + 1 by omega, lvl, ← h4, take_stp (by omega) (by omega)]
  · have e : rootH d ls = emp d.toNat := by rw [rootH, if_pos h, show d.toNat = t.toNat by omega, ← h4, show k = 0 by omega]; rfl
    refine ⟨by omega, by omega, by omega, by rw [nl_get _ _ (by omega) (by omega), e], h.symm, by rw [e]; exact emp_length _⟩
  · have e : rootH d ls = c.getD 0 (List.replicate 32 0) := by
      rw [rootH, if_pos h, show d.toNat = t.toNat by omega, ← h4, getD_lt (by rw [List.length_take]; omega), getD_lt (by omega), List.getElem_take]
    exact ⟨by omega, by omega, by omega, by omega, e.symm, h.symm, by rw [e]; exact mem_getD hca (by omega) _⟩
noncomputable def con_mroot : Con Xp.P FMp := ⟨94, sg_mroot, pr_mroot, ps_mroot, vc_ok (La := la_mroot) (Ca := ca_mroot) 300 (fn := Go.Proofs.Try.f94) (by kernel_rfl) (c := cd_mroot) (by kernel_rfl) (by kernel_rfl) (by kernel_rfl) (by kernel_rfl) (fun ⟨d, ⟨⟨A, ⟨ls, c⟩⟩, ⟨⟩⟩⟩ => vc_mroot d A ls c)⟩

end Go.Pw
end
section
/-
  Walks by computing. No condition.
-/
set_option linter.all false
set_option maxRecDepth 100000
set_option maxHeartbeats 1000000
namespace Go.Pw
open Go Go.Px Go.RowKit
attribute [local irreducible] shaF

def la_h (S : SS FMp) : List Int := match S.m with
  | .sl _ _ _ [.b (.iz _ l _)] _ _ :: _ => l
  | _ => []
def e16 (a b : Int) : List Int := ei8 a ++ ei8 b
def leafF (b : List Int) : List Int := shaF ([0] ++ b)
def pairF (u v : List Int) : List Int := shaF ([1] ++ u ++ v)
def cntF (n : Int) : List Int := frF 32 32 [0, 0, 0, n]
def topF (u v : List Int) (n : Int) : List Int := pairF (pairF u v) (cntF n)
def sfoB (i : Int) (ps : List (List Int)) (cnt : Int) : Bool := decide (ps.length = 5) && decide (cnt ≤ 32) && decide (fldE i 5 = 0)
def sfoH (i : Int) (b : List Int) (ps : List (List Int)) (cnt : Int) : List Int := if ps.length = 5 ∧ cnt ≤ 32 then fldH i (leafF b) ps else List.replicate 32 0
def ckO (root : List Int) (i to am : Int) (ps : List (List Int)) (oth : List Int) (cnt : Int) : Bool :=
  sfoB i ps cnt && decide (IntKind.u64.wrap i < cnt) && decide (topF oth (sfoH i (e16 to am) ps cnt) cnt = root)


theorem e16_length (a b : Int) : (e16 a b).length = 16 := by simp [e16, ei8_length]
theorem wrR2 (a b : Int) : wrR [a, b] 2 = e16 a b := by simp [wrR, itN, catS, e16]
theorem itN_e8 (x : Int) : ∀ j, (itN (e8S x) j []).length = j
  | 0 => rfl
  | j + 1 => by simp [itN, e8S, itN_e8 x j]
theorem e16_range (a b : Int) : ∀ y ∈ e16 a b, 0 ≤ y ∧ y < 256 := fun y hy => by
  rcases List.mem_append.1 hy with h | h
  · exact ei8_range a y h
  · exact ei8_range b y h
noncomputable def cd_leaf : Code := (Go.Proofs.Try.f97.body).getD .skip
def sg_leaf : List Arg := [.one (.sli .u8)]
def pr_leaf : SgT FMp sg_leaf → List Prop
  | ((A, (b, c)), ()) => (fun (A : Option Addr) (b : List Int) (c : Nat) => ([b.length ≤ 1000000] : List Prop)) A b c
def ps_leaf : SgT FMp sg_leaf → PS FMp
  | ((A, (b, c)), ()) => (fun (A : Option Addr) (b : List Int) (c : Nat) => (⟨Unit, fun y => [], fun y => .v (.ag (zz .u8 (leafF b) 32)), fun y => [], fun y => [(leafF b).length = 32]⟩ : PS FMp)) A b c
def la_leaf : SgT FMp sg_leaf → List (Nat × (SS FMp → HA FMp))
  | ((A, (b, c)), ()) => (fun (A : Option Addr) (b : List Int) (c : Nat) => ([] : List (Nat × (SS FMp → HA FMp)))) A b c
def ca_leaf : SgT FMp sg_leaf → List (Nat × (SS FMp → HA FMp))
  | ((A, (b, c)), ()) => (fun (A : Option Addr) (b : List Int) (c : Nat) => ([] : List (Nat × (SS FMp → HA FMp)))) A b c
theorem vc_leaf (A : Option Addr) (b : List Int) (c : Nat) : Vc (vc (FM := FMp) Xp 8 [con_concat_bytes, con_sum] (la_leaf ((A, (b, c)), ())) (ca_leaf ((A, (b, c)), ())) [] [] [.cell 2 40] sg_leaf pr_leaf ps_leaf cd_leaf 300 ((A, (b, c)), ())) := by
  refine ⟨Eq.mpr (β := (A.isNone = true → b = []) → b.length ≤ (1000000 : Nat) → ∀ (b_1 b_2 b_3 : Nat), (2 : Nat) = (2 : Nat) ∧ (2 : Nat) = [(some (Addr.mk b_2 (0 : Nat) none), [(0 : Int)], (1 : Nat)), (A, b, c)].length ∧ (1 : Nat) = (1 : Nat) ∧ b.length = b.length ∧ (catL [(some (Addr.mk b_2 (0 : Nat) none), [(0 : Int)], (1 : Nat)), (A, b, c)]).length ≤ (140737488355328 : Nat) ∧ [(some (Addr.mk b_2 (0 : Nat) none), [(0 : Int)], (1 : Nat)), (A, b, c)].length ≤ (1000 : Nat) ∧ ∀ (y : Option Addr × Nat), (catL [(some (Addr.mk b_2 (0 : Nat) none), [(0 : Int)], (1 : Nat)), (A, b, c)]).length = (catL [(some (Addr.mk b_2 (0 : Nat) none), [(0 : Int)], (1 : Nat)), (A, b, c)]).length → (catL [(some (Addr.mk b_2 (0 : Nat) none), [(0 : Int)], (1 : Nat)), (A, b, c)]).length ≤ y.2 → (catL [(some (Addr.mk b_2 (0 : Nat) none), [(0 : Int)], (1 : Nat)), (A, b, c)]).length = (catL [(some (Addr.mk b_2 (0 : Nat) none), [(0 : Int)], (1 : Nat)), (A, b, c)]).length ∧ (catL [(some (Addr.mk b_2 (0 : Nat) none), [(0 : Int)], (1 : Nat)), (A, b, c)]).length ≤ (140737488355000 : Nat) ∧ ∀ (y : Unit), (shaF (catL [(some (Addr.mk b_2 (0 : Nat) none), [(0 : Int)], (1 : Nat)), (A, b, c)])).length = (32 : Nat) → (shaF (catL [(some (Addr.mk b_2 (0 : Nat) none), [(0 : Int)], (1 : Nat)), (A, b, c)])).length = (32 : Nat) → ∃ (y : Unit), shaF (catL [(some (Addr.mk b_2 (0 : Nat) none), [(0 : Int)], (1 : Nat)), (A, b, c)]) = leafF b ∧ (32 : Nat) = (32 : Nat) ∧ (leafF b).length = (32 : Nat)) (by kernel_rfl) ?_⟩
  simp only [imin, imax, decide_eq_true_eq, decide_eq_false_iff_not, Prod.forall, Prod.exists, exists_eq_left', exists_eq_left, exists_and_left, exists_and_right, exists_eq_right, exists_eq, exists_eq', true_and, and_true, forall_const, exists_const, eq_self, Bool.not_eq_true, Bool.not_eq_eq_eq_not, Bool.not_true, Bool.not_false, Value.slice.injEq, Option.getD_some, imp_self, implies_true, Option.some.injEq, Addr.mk.injEq, true_or, or_true, List.length_cons, List.length_nil, Nat.zero_add, Nat.reduceAdd]
  intro _ hn B1
  have e : ∀ (X Y : Option Addr) (p q : Nat), catL [(X, [0], p), (Y, b, q)] = [0] ++ b := by intros; simp [catL]
  simp only [e]
  refine ⟨by simp; omega, by omega, fun r hr => ⟨by simp; omega, fun h _ => ⟨rfl, h⟩⟩⟩
noncomputable def con_leaf : Con Xp.P FMp := ⟨97, sg_leaf, pr_leaf, ps_leaf, vc_ok (La := la_leaf) (Ca := ca_leaf) 300 (fn := Go.Proofs.Try.f97) (by kernel_rfl) (c := cd_leaf) (by kernel_rfl) (by kernel_rfl) (by kernel_rfl) (by kernel_rfl) (fun ⟨⟨A, ⟨b, c⟩⟩, ⟨⟩⟩ => vc_leaf A b c)⟩
noncomputable def cd_sfrom : Code := (Go.Proofs.Try.f112.body).getD .skip
def sg_sfrom : List Arg := [.ag [.arr .u64 4]]
def pr_sfrom : SgT FMp sg_sfrom → List Prop
  | ((w, ()), ()) => (fun (w : List Int) => ([] : List Prop)) w
def ps_sfrom : SgT FMp sg_sfrom → PS FMp
  | ((w, ()), ()) => (fun (w : List Int) => (⟨Unit, fun y => [], fun y => .v (.ag (zz .u8 (frF 32 32 w) 32)), fun y => [], fun y => [(frF 32 32 w).length = 32]⟩ : PS FMp)) w
def la_sfrom : SgT FMp sg_sfrom → List (Nat × (SS FMp → HA FMp))
  | ((w, ()), ()) => (fun (w : List Int) => ([(3, fun S => ⟨Int × (List Int), fun y => [], fun n y => [(5, some (one (.int .i64 (y.1))))], fun n y => setId S.m 2 (zz .u8 y.2 32), fun y => [0 ≤ y.1, y.1 ≤ 32, y.2 = itN (frS w) y.1.toNat (List.replicate 32 0)], fun y => (32 - y.1).toNat⟩)] : List (Nat × (SS FMp → HA FMp)))) w
def ca_sfrom : SgT FMp sg_sfrom → List (Nat × (SS FMp → HA FMp))
  | ((w, ()), ()) => (fun (w : List Int) => ([] : List (Nat × (SS FMp → HA FMp)))) w
theorem vc_sfrom (w : List Int) : Vc (vc (FM := FMp) Xp 22 [] (la_sfrom ((w, ()), ())) (ca_sfrom ((w, ()), ())) [] [] [.cell 2 40] sg_sfrom pr_sfrom ps_sfrom cd_sfrom 300 ((w, ()), ())) := by
  refine ⟨Eq.mpr (β := w.length = (4 : Nat) → ∀ (b b b : Nat), (∃ (y : Int × List Int), (0 : Int) = y.1 ∧ List.replicate (32 : Nat) (0 : Int) = y.2 ∧ (32 : Nat) = (32 : Nat) ∧ List.replicate (32 : Nat) (0 : Int) = List.replicate (32 : Nat) (0 : Int) ∧ (32 : Nat) = (32 : Nat) ∧ w = w ∧ (4 : Nat) = (4 : Nat) ∧ (0 : Int) ≤ y.1 ∧ y.1 ≤ (32 : Int) ∧ y.2 = itN (frS w) y.1.toNat (List.replicate (32 : Nat) (0 : Int))) ∧ ∀ (y : Int × List Int), y.2.length = (32 : Nat) → (32 : Nat) = (32 : Nat) → w.length = (4 : Nat) → (0 : Int) ≤ y.1 → y.1 ≤ (32 : Int) → y.2 = itN (frS w) y.1.toNat (List.replicate (32 : Nat) (0 : Int)) → (decide (y.1 < (32 : Int)) = true → (0 : Int) ≤ y.1 ∧ y.1 ≤ (9223372036854775807 : Int) ∧ (0 : Int) < (8 : Int) ∧ (0 : Int) ≤ y.1 / (8 : Int) ∧ y.1 / (8 : Int) < (4 : Int) ∧ (y.1 / (8 : Int)).toNat < (4 : Nat) ∧ (0 : Int) ≤ y.1 ∧ (0 : Int) < (8 : Int) ∧ (-9223372036854775808 : Int) ≤ (8 : Int) * (y.1 % (8 : Int)) ∧ (8 : Int) * (y.1 % (8 : Int)) ≤ (9223372036854775807 : Int) ∧ (-9223372036854775808 : Int) ≤ (56 : Int) - (8 : Int) * (y.1 % (8 : Int)) ∧ (56 : Int) - (8 : Int) * (y.1 % (8 : Int)) ≤ (9223372036854775807 : Int) ∧ (0 : Int) ≤ (56 : Int) - (8 : Int) * (y.1 % (8 : Int)) ∧ (0 : Int) ≤ y.1 ∧ y.1 < (32 : Int) ∧ y.1.toNat < (32 : Nat) ∧ ∀ (q : List Int), q = y.2.set y.1.toNat (IntKind.u8.wrap (shrV IntKind.u64 (w.getD (y.1 / (8 : Int)).toNat (0 : Int)) ((56 : Int) - (8 : Int) * (y.1 % (8 : Int))))) → (-9223372036854775808 : Int) ≤ y.1 + (1 : Int) ∧ y.1 + (1 : Int) ≤ (9223372036854775807 : Int) ∧ ∃ (y_1 : Int × List Int), y.1 + (1 : Int) = y_1.1 ∧ q = y_1.2 ∧ (32 : Nat) = (32 : Nat) ∧ List.replicate (32 : Nat) (0 : Int) = List.replicate (32 : Nat) (0 : Int) ∧ (32 : Nat) = (32 : Nat) ∧ w = w ∧ (4 : Nat) = (4 : Nat) ∧ (0 : Int) ≤ y_1.1 ∧ y_1.1 ≤ (32 : Int) ∧ y_1.2 = itN (frS w) y_1.1.toNat (List.replicate (32 : Nat) (0 : Int)) ∧ ((32 : Int) - y_1.1).toNat < ((32 : Int) - y.1).toNat) ∧ (decide (y.1 < (32 : Int)) = false → ∃ (y_1 : Unit), y.2 = frF (32 : Nat) (32 : Nat) w ∧ (32 : Nat) = (32 : Nat) ∧ (frF (32 : Nat) (32 : Nat) w).length = (32 : Nat))) (by kernel_rfl) ?_⟩
  simp only [imin, imax, decide_eq_true_eq, decide_eq_false_iff_not, Prod.forall, Prod.exists, exists_eq_left', exists_eq_left, exists_and_left, exists_and_right, exists_eq_right, exists_eq, exists_eq', true_and, and_true, forall_const, exists_const, eq_self, Bool.not_eq_true, Bool.not_eq_eq_eq_not, Bool.not_true, Bool.not_false, Value.slice.injEq, Option.getD_some, imp_self, implies_true, Option.some.injEq, Addr.mk.injEq, true_or, or_true, List.length_cons, List.length_nil, Nat.zero_add, Nat.reduceAdd]
  intro hw
  refine ⟨⟨by omega, by omega, rfl⟩, fun k q hq _ h0 h1 he => ⟨fun h2 => ⟨h0, by omega, by omega, by omega, by omega, by omega, h0, by omega, by omega, by omega, by omega, by omega, by omega, h0, h2, by omega, fun q' hq' => ⟨by omega, by omega, by omega, by omega, ?_, by omega⟩⟩, fun h2 => ⟨by rw [he, show k.toNat = 32 by omega]; rfl, frF_length _ _ _⟩⟩⟩
  rw [hq', show (k + 1).toNat = k.toNat + 1 by omega, itN, ← he, frS, show (k / 8).toNat = k.toNat / 8 by omega, Int.toNat_of_nonneg h0]
noncomputable def con_sfrom : Con Xp.P FMp := ⟨112, sg_sfrom, pr_sfrom, ps_sfrom, vc_ok (La := la_sfrom) (Ca := ca_sfrom) 300 (fn := Go.Proofs.Try.f112) (by kernel_rfl) (c := cd_sfrom) (by kernel_rfl) (by kernel_rfl) (by kernel_rfl) (by kernel_rfl) (fun ⟨⟨w, ⟨⟩⟩, ⟨⟩⟩ => vc_sfrom w)⟩
noncomputable def cd_soutb : Code := (Go.Proofs.Try.f44.body).getD .skip
def sg_soutb : List Arg := [.ag [.int .u64, .int .u64]]
def pr_soutb : SgT FMp sg_soutb → List Prop
  | ((to, (am, ())), ()) => (fun (to am : Int) => ([] : List Prop)) to am
def ps_soutb : SgT FMp sg_soutb → PS FMp
  | ((to, (am, ())), ()) => (fun (to am : Int) => (⟨(Option Addr) × Nat, fun y => [.ad y.1], fun y => .v (.one (.sc 0 0 ((e16 to am).length) y.2 false)), fun y => [.sl 0 ((e16 to am).length) y.2 (zz .u8 ((e16 to am)) ((e16 to am).length)) 5 1], fun y => [((e16 to am)).length ≤ y.2]⟩ : PS FMp)) to am
def la_soutb : SgT FMp sg_soutb → List (Nat × (SS FMp → HA FMp))
  | ((to, (am, ())), ()) => (fun (to am : Int) => ([(7700002, fun S => ⟨Int × (List Int) × (Option Addr) × Nat, fun y => [.ad y.2.2.1], fun n y => [(0, some (.v (.one (.sc n 0 y.2.1.length y.2.2.2 false)))), (10, some (one (.int .i64 (y.1))))], fun n y => .sl n y.2.1.length y.2.2.2 (zz .u8 y.2.1 y.2.1.length) 5 1 :: S.m, fun y => [0 ≤ y.1, y.1 ≤ 2, y.2.1 = wrR [to, am] y.1.toNat, y.2.1.length ≤ y.2.2.2], fun y => (2 - y.1).toNat⟩), (7700005, fun S => ⟨Int × Nat × (List Int) × (Option Addr) × Nat, fun y => [.ad y.2.2.2.1], fun n y => [(0, some (.v (.one (.sc n 0 y.2.2.1.length y.2.2.2.2 false)))), (7, some (one (.int .i64 (y.1))))], fun n y => .sl n y.2.2.1.length y.2.2.2.2 (zz .u8 y.2.2.1 y.2.2.1.length) 5 1 :: S.m.tail, fun y => [y.1 = 56 - 8 * (y.2.1 : Int), y.2.1 ≤ 8, y.2.2.1.length ≤ y.2.2.2.2, y.2.2.1 = la_h S ++ itN (e8S (la_i S 6)) y.2.1 []], fun y => 8 - y.2.1⟩)] : List (Nat × (SS FMp → HA FMp)))) to am
def ca_soutb : SgT FMp sg_soutb → List (Nat × (SS FMp → HA FMp))
  | ((to, (am, ())), ()) => (fun (to am : Int) => ([] : List (Nat × (SS FMp → HA FMp)))) to am
theorem vc_soutb (to am : Int) : Vc (vc (FM := FMp) Xp 9 [] (la_soutb ((to, (am, ())), ())) (ca_soutb ((to, (am, ())), ())) [] [76] [.tmp 2] sg_soutb pr_soutb ps_soutb cd_soutb 300 ((to, (am, ())), ())) := by
  refine ⟨Eq.mpr (β := ∀ (b b : Nat), (∃ (y : Int × List Int × Option Addr × Nat), Value.slice none (0 : Nat) (0 : Nat) = Value.slice y.snd.2.1 y.2.1.length y.snd.2.2 ∧ (0 : Int) = y.1 ∧ y.snd.2.1 = none ∧ y.2.1.length = (0 : Nat) ∧ y.snd.2.2 = (0 : Nat) ∧ y.2.1 = [] ∧ y.2.1.length = (0 : Nat) ∧ (2 : Nat) = (2 : Nat) ∧ (2 : Nat) = (2 : Nat) ∧ [to, am] = [to, am] ∧ [to, am].length = [to, am].length ∧ to = to ∧ am = am ∧ (0 : Int) ≤ y.1 ∧ y.1 ≤ (2 : Int) ∧ y.2.1 = wrR [to, am] y.1.toNat ∧ y.2.1.length ≤ y.snd.2.2) ∧ ∀ (y : Int × List Int × Option Addr × Nat), y.2.1.length = y.2.1.length → [to, am].length = [to, am].length → (0 : Int) ≤ y.1 → y.1 ≤ (2 : Int) → y.2.1 = wrR [to, am] y.1.toNat → y.2.1.length ≤ y.snd.2.2 → (decide (y.1 < (2 : Int)) = true → (0 : Int) ≤ y.1 ∧ y.1 < (2 : Int) ∧ y.1.toNat < [to, am].length ∧ (∃ (y_1 : Int × Nat × List Int × Option Addr × Nat), y.snd.2.1 = y_1.snd.snd.2.1 ∧ y.2.1.length = y_1.snd.2.1.length ∧ y.snd.2.2 = y_1.snd.snd.2.2 ∧ (56 : Int) = y_1.1 ∧ y.snd.2.1 = y_1.snd.snd.2.1 ∧ y.2.1.length = y_1.snd.2.1.length ∧ y.snd.2.2 = y_1.snd.snd.2.2 ∧ y.2.1 = y_1.snd.2.1 ∧ y.2.1.length = y_1.snd.2.1.length ∧ (2 : Nat) = (2 : Nat) ∧ (2 : Nat) = (2 : Nat) ∧ [to, am] = [to, am] ∧ [to, am].length = [to, am].length ∧ to = to ∧ am = am ∧ y_1.1 = (56 : Int) - (8 : Int) * (↑y_1.2.1 : Int) ∧ y_1.2.1 ≤ (8 : Nat) ∧ y_1.snd.2.1.length ≤ y_1.snd.snd.2.2 ∧ y_1.snd.2.1 = y.2.1 ++ itN (e8S ([to, am].getD y.1.toNat (0 : Int))) y_1.2.1 []) ∧ ∀ (y_1 : Int × Nat × List Int × Option Addr × Nat), y_1.snd.2.1.length = y_1.snd.2.1.length → [to, am].length = [to, am].length → y_1.1 = (56 : Int) - (8 : Int) * (↑y_1.2.1 : Int) → y_1.2.1 ≤ (8 : Nat) → y_1.snd.2.1.length ≤ y_1.snd.snd.2.2 → y_1.snd.2.1 = y.2.1 ++ itN (e8S ([to, am].getD y.1.toNat (0 : Int))) y_1.2.1 [] → (decide ((0 : Int) ≤ y_1.1) = true → (0 : Int) ≤ y_1.1 ∧ ∀ (b : Nat), y_1.snd.2.1.length = y_1.snd.2.1.length ∧ y_1.snd.snd.2.2 = y_1.snd.snd.2.2 ∧ (1 : Nat) = [IntKind.u8.wrap (shrV IntKind.u64 ([to, am].getD y.1.toNat (0 : Int)) y_1.1)].length ∧ (y_1.snd.2.1.length + (1 : Nat)) * Proofs.Try.prog.types[(5 : Nat)].bytes ≤ (140737488355328 : Nat) ∧ ∀ (A : Option Addr) (q : Nat), y_1.snd.2.1.length + (1 : Nat) ≤ q → (-9223372036854775808 : Int) ≤ y_1.1 - (8 : Int) ∧ y_1.1 - (8 : Int) ≤ (9223372036854775807 : Int) ∧ ∃ (y_2 : Int × Nat × List Int × Option Addr × Nat), A = y_2.snd.snd.2.1 ∧ y_1.snd.2.1.length + (1 : Nat) = y_2.snd.2.1.length ∧ q = y_2.snd.snd.2.2 ∧ y_1.1 - (8 : Int) = y_2.1 ∧ A = y_2.snd.snd.2.1 ∧ y_1.snd.2.1.length + (1 : Nat) = y_2.snd.2.1.length ∧ q = y_2.snd.snd.2.2 ∧ y_1.snd.2.1 ++ [IntKind.u8.wrap (shrV IntKind.u64 ([to, am].getD y.1.toNat (0 : Int)) y_1.1)] = y_2.snd.2.1 ∧ y_1.snd.2.1.length + [IntKind.u8.wrap (shrV IntKind.u64 ([to, am].getD y.1.toNat (0 : Int)) y_1.1)].length = y_2.snd.2.1.length ∧ (2 : Nat) = (2 : Nat) ∧ (2 : Nat) = (2 : Nat) ∧ [to, am] = [to, am] ∧ [to, am].length = [to, am].length ∧ to = to ∧ am = am ∧ y_2.1 = (56 : Int) - (8 : Int) * (↑y_2.2.1 : Int) ∧ y_2.2.1 ≤ (8 : Nat) ∧ y_2.snd.2.1.length ≤ y_2.snd.snd.2.2 ∧ y_2.snd.2.1 = y.2.1 ++ itN (e8S ([to, am].getD y.1.toNat (0 : Int))) y_2.2.1 [] ∧ (8 : Nat) - y_2.2.1 < (8 : Nat) - y_1.2.1) ∧ (decide ((0 : Int) ≤ y_1.1) = false → (-9223372036854775808 : Int) ≤ y.1 + (1 : Int) ∧ y.1 + (1 : Int) ≤ (9223372036854775807 : Int) ∧ ∃ (y_2 : Int × List Int × Option Addr × Nat), y_1.snd.snd.2.1 = y_2.snd.2.1 ∧ y_1.snd.2.1.length = y_2.2.1.length ∧ y_1.snd.snd.2.2 = y_2.snd.2.2 ∧ y.1 + (1 : Int) = y_2.1 ∧ y_1.snd.snd.2.1 = y_2.snd.2.1 ∧ y_1.snd.2.1.length = y_2.2.1.length ∧ y_1.snd.snd.2.2 = y_2.snd.2.2 ∧ y_1.snd.2.1 = y_2.2.1 ∧ y_1.snd.2.1.length = y_2.2.1.length ∧ (2 : Nat) = (2 : Nat) ∧ (2 : Nat) = (2 : Nat) ∧ [to, am] = [to, am] ∧ [to, am].length = [to, am].length ∧ to = to ∧ am = am ∧ (0 : Int) ≤ y_2.1 ∧ y_2.1 ≤ (2 : Int) ∧ y_2.2.1 = wrR [to, am] y_2.1.toNat ∧ y_2.2.1.length ≤ y_2.snd.2.2 ∧ ((2 : Int) - y_2.1).toNat < ((2 : Int) - y.1).toNat)) ∧ (decide (y.1 < (2 : Int)) = false → ∃ (y_1 : Option Addr × Nat), y.snd.2.1 = y_1.1 ∧ y.2.1.length = (e16 to am).length ∧ y.snd.2.2 = y_1.2 ∧ y.snd.2.1 = y_1.1 ∧ y.2.1.length = (e16 to am).length ∧ y.snd.2.2 = y_1.2 ∧ y.2.1 = e16 to am ∧ y.2.1.length = (e16 to am).length ∧ (e16 to am).length ≤ y_1.2)) (by kernel_rfl) ?_⟩
  simp only [imin, imax, decide_eq_true_eq, decide_eq_false_iff_not, Prod.forall, Prod.exists, exists_eq_left', exists_eq_left, exists_and_left, exists_and_right, exists_eq_right, exists_eq, exists_eq', true_and, and_true, forall_const, exists_const, eq_self, Bool.not_eq_true, Bool.not_eq_eq_eq_not, Bool.not_true, Bool.not_false, Value.slice.injEq, Option.getD_some, imp_self, implies_true, Option.some.injEq, Addr.mk.injEq, true_or, or_true, List.length_cons, List.length_nil, Nat.zero_add, Nat.reduceAdd]
  refine ⟨⟨0, [], none, 0, ⟨rfl, rfl, rfl⟩, rfl, rfl, rfl, rfl, rfl, rfl, by omega, by omega, rfl, Nat.le_refl _⟩, fun k v r k0 k1 hv hr => ⟨fun h => ⟨k0, h, by omega, ?_, fun i j u q hi hj hq hu => ⟨fun g => ?_, fun g => ?_⟩⟩, fun h => ?_⟩⟩
  · exact ⟨56, 0, v, rfl, rfl, rfl, rfl, rfl, rfl, by omega, hr, by simp [itN]⟩
  · have hul : u.length = 8 * k.toNat + j := by rw [hu, List.length_append, hv, wrR_length, itN_e8]
    refine ⟨g, by rw [BY1]; omega, fun q' hq' => ⟨by omega, by omega, i - 8, j + 1, u ++ [IntKind.u8.wrap (shrV .u64 ([to, am].getD k.toNat 0) i)], by simp, rfl, by simp, rfl, by simp, by omega, by omega, by simpa using hq', ?_, by omega⟩⟩
    rw [itN, e8S, ← List.append_assoc, ← hu, show 8 * (7 - (j : Int)) = i by omega]
  · have hj8 : j = 8 := by omega
    subst hj8
    refine ⟨by omega, by omega, k + 1, u, rfl, rfl, rfl, rfl, rfl, by omega, by omega, ?_, hq, by omega⟩
    rw [show (k + 1).toNat = k.toNat + 1 by omega, hu, hv]
    rfl
  · have hk : k.toNat = 2 := by omega
    rw [hk, wrR2] at hv
    subst hv
    exact ⟨rfl, rfl, rfl, rfl, hr⟩
noncomputable def con_soutb : Con Xp.P FMp := ⟨44, sg_soutb, pr_soutb, ps_soutb, vc_ok (La := la_soutb) (Ca := ca_soutb) 300 (fn := Go.Proofs.Try.f44) (by kernel_rfl) (c := cd_soutb) (by kernel_rfl) (by kernel_rfl) (by kernel_rfl) (by kernel_rfl) (fun ⟨⟨to, ⟨am, ⟨⟩⟩⟩, ⟨⟩⟩ => vc_soutb to am)⟩
noncomputable def cd_scounted : Code := (Go.Proofs.Try.f93.body).getD .skip
def sg_scounted : List Arg := [.one (.int .u64)]
def pr_scounted : SgT FMp sg_scounted → List Prop
  | (n, ()) => (fun (n : Int) => ([] : List Prop)) n
def ps_scounted : SgT FMp sg_scounted → PS FMp
  | (n, ()) => (fun (n : Int) => (⟨Unit, fun y => [], fun y => .v (.ag (zz .u8 (cntF n) 32)), fun y => [], fun y => [(cntF n).length = 32]⟩ : PS FMp)) n
def la_scounted : SgT FMp sg_scounted → List (Nat × (SS FMp → HA FMp))
  | (n, ()) => (fun (n : Int) => ([] : List (Nat × (SS FMp → HA FMp)))) n
def ca_scounted : SgT FMp sg_scounted → List (Nat × (SS FMp → HA FMp))
  | (n, ()) => (fun (n : Int) => ([] : List (Nat × (SS FMp → HA FMp)))) n
theorem vc_scounted (n : Int) : Vc (vc (FM := FMp) Xp 6 [con_sfrom] (la_scounted (n, ())) (ca_scounted (n, ())) [] [] [.cell 2 40] sg_scounted pr_scounted ps_scounted cd_scounted 300 (n, ())) := by
  refine ⟨Eq.mpr (β := ∀ (b : Nat) (y : Unit), (frF (32 : Nat) (32 : Nat) ((List.replicate (4 : Nat) (0 : Int)).set (3 : Nat) n)).length = (32 : Nat) → (frF (32 : Nat) (32 : Nat) ((List.replicate (4 : Nat) (0 : Int)).set (3 : Nat) n)).length = (32 : Nat) → ∃ (y : Unit), frF (32 : Nat) (32 : Nat) ((List.replicate (4 : Nat) (0 : Int)).set (3 : Nat) n) = cntF n ∧ (32 : Nat) = (32 : Nat) ∧ (cntF n).length = (32 : Nat)) (by kernel_rfl) ?_⟩
  simp only [imin, imax, decide_eq_true_eq, decide_eq_false_iff_not, Prod.forall, Prod.exists, exists_eq_left', exists_eq_left, exists_and_left, exists_and_right, exists_eq_right, exists_eq, exists_eq', true_and, and_true, forall_const, exists_const, eq_self, Bool.not_eq_true, Bool.not_eq_eq_eq_not, Bool.not_true, Bool.not_false, Value.slice.injEq, Option.getD_some, imp_self, implies_true, Option.some.injEq, Addr.mk.injEq, true_or, or_true, List.length_cons, List.length_nil, Nat.zero_add, Nat.reduceAdd]
  exact fun h _ => ⟨rfl, h⟩
noncomputable def con_scounted : Con Xp.P FMp := ⟨93, sg_scounted, pr_scounted, ps_scounted, vc_ok (La := la_scounted) (Ca := ca_scounted) 300 (fn := Go.Proofs.Try.f93) (by kernel_rfl) (c := cd_scounted) (by kernel_rfl) (by kernel_rfl) (by kernel_rfl) (by kernel_rfl) (fun ⟨n, ⟨⟩⟩ => vc_scounted n)⟩
noncomputable def cd_stop_ : Code := (Go.Proofs.Try.f69.body).getD .skip
def sg_stop_ : List Arg := [.ag [.arr .u8 32], .ag [.arr .u8 32], .one (.int .u64)]
def pr_stop_ : SgT FMp sg_stop_ → List Prop
  | ((u, ()), ((v, ()), (n, ()))) => (fun (u v : List Int) (n : Int) => ([] : List Prop)) u v n
def ps_stop_ : SgT FMp sg_stop_ → PS FMp
  | ((u, ()), ((v, ()), (n, ()))) => (fun (u v : List Int) (n : Int) => (⟨Unit, fun y => [], fun y => .v (.ag (zz .u8 (topF u v n) 32)), fun y => [], fun y => [(topF u v n).length = 32]⟩ : PS FMp)) u v n
def la_stop_ : SgT FMp sg_stop_ → List (Nat × (SS FMp → HA FMp))
  | ((u, ()), ((v, ()), (n, ()))) => (fun (u v : List Int) (n : Int) => ([] : List (Nat × (SS FMp → HA FMp)))) u v n
def ca_stop_ : SgT FMp sg_stop_ → List (Nat × (SS FMp → HA FMp))
  | ((u, ()), ((v, ()), (n, ()))) => (fun (u v : List Int) (n : Int) => ([] : List (Nat × (SS FMp → HA FMp)))) u v n
theorem vc_stop_ (u v : List Int) (n : Int) : Vc (vc (FM := FMp) Xp 13 [con_scounted, con_pair] (la_stop_ ((u, ()), ((v, ()), (n, ())))) (ca_stop_ ((u, ()), ((v, ()), (n, ())))) [] [] [.cell 6 40] sg_stop_ pr_stop_ ps_stop_ cd_stop_ 300 ((u, ()), ((v, ()), (n, ())))) := by
  refine ⟨Eq.mpr (β := u.length = (32 : Nat) → v.length = (32 : Nat) → ∀ (b b b : Nat) (y : Unit), (shaF ([(1 : Int)] ++ u ++ v)).length = (32 : Nat) → (shaF ([(1 : Int)] ++ u ++ v)).length = (32 : Nat) → ∀ (y : Unit), (cntF n).length = (32 : Nat) → (cntF n).length = (32 : Nat) → ∀ (y : Unit), (shaF ([(1 : Int)] ++ shaF ([(1 : Int)] ++ u ++ v) ++ cntF n)).length = (32 : Nat) → (shaF ([(1 : Int)] ++ shaF ([(1 : Int)] ++ u ++ v) ++ cntF n)).length = (32 : Nat) → ∃ (y : Unit), shaF ([(1 : Int)] ++ shaF ([(1 : Int)] ++ u ++ v) ++ cntF n) = topF u v n ∧ (32 : Nat) = (32 : Nat) ∧ (topF u v n).length = (32 : Nat)) (by kernel_rfl) ?_⟩
  simp only [imin, imax, decide_eq_true_eq, decide_eq_false_iff_not, Prod.forall, Prod.exists, exists_eq_left', exists_eq_left, exists_and_left, exists_and_right, exists_eq_right, exists_eq, exists_eq', true_and, and_true, forall_const, exists_const, eq_self, Bool.not_eq_true, Bool.not_eq_eq_eq_not, Bool.not_true, Bool.not_false, Value.slice.injEq, Option.getD_some, imp_self, implies_true, Option.some.injEq, Addr.mk.injEq, true_or, or_true, List.length_cons, List.length_nil, Nat.zero_add, Nat.reduceAdd]
  exact fun _ _ _ _ _ _ h _ => ⟨rfl, h⟩
noncomputable def con_stop_ : Con Xp.P FMp := ⟨69, sg_stop_, pr_stop_, ps_stop_, vc_ok (La := la_stop_) (Ca := ca_stop_) 300 (fn := Go.Proofs.Try.f69) (by kernel_rfl) (c := cd_stop_) (by kernel_rfl) (by kernel_rfl) (by kernel_rfl) (by kernel_rfl) (fun ⟨⟨u, ⟨⟩⟩, ⟨⟨v, ⟨⟩⟩, ⟨n, ⟨⟩⟩⟩⟩ => vc_stop_ u v n)⟩
noncomputable def cd_sfold : Code := (Go.Proofs.Try.f70.body).getD .skip
def sg_sfold : List Arg := [.one (.int .i64), .one (.sli .u8), .ag [.slr 0, .arr .u8 32, .int .u64]]
def pr_sfold : SgT FMp sg_sfold → List Prop
  | (i, ((A, (b, c)), (((P, (ps, pc)), (oth, (cnt, ()))), ()))) => (fun (i : Int) (A : Option Addr) (b : List Int) (c : Nat) (P : Option Addr) (ps : List (List Int)) (pc : Nat) (oth : List Int) (cnt : Int) => ([b.length ≤ 1000000] : List Prop)) i A b c P ps pc oth cnt
def ps_sfold : SgT FMp sg_sfold → PS FMp
  | (i, ((A, (b, c)), (((P, (ps, pc)), (oth, (cnt, ()))), ()))) => (fun (i : Int) (A : Option Addr) (b : List Int) (c : Nat) (P : Option Addr) (ps : List (List Int)) (pc : Nat) (oth : List Int) (cnt : Int) => (⟨Unit, fun y => [], fun y => .tup [.ag (zz .u8 (sfoH i b ps cnt) 32), .one (.xv (.bool (sfoB i ps cnt)))], fun y => [], fun y => [(sfoH i b ps cnt).length = 32]⟩ : PS FMp)) i A b c P ps pc oth cnt
def la_sfold : SgT FMp sg_sfold → List (Nat × (SS FMp → HA FMp))
  | (i, ((A, (b, c)), (((P, (ps, pc)), (oth, (cnt, ()))), ()))) => (fun (i : Int) (A : Option Addr) (b : List Int) (c : Nat) (P : Option Addr) (ps : List (List Int)) (pc : Nat) (oth : List Int) (cnt : Int) => ([] : List (Nat × (SS FMp → HA FMp)))) i A b c P ps pc oth cnt
def ca_sfold : SgT FMp sg_sfold → List (Nat × (SS FMp → HA FMp))
  | (i, ((A, (b, c)), (((P, (ps, pc)), (oth, (cnt, ()))), ()))) => (fun (i : Int) (A : Option Addr) (b : List Int) (c : Nat) (P : Option Addr) (ps : List (List Int)) (pc : Nat) (oth : List Int) (cnt : Int) => ([] : List (Nat × (SS FMp → HA FMp)))) i A b c P ps pc oth cnt
theorem vc_sfold (i : Int) (A : Option Addr) (b : List Int) (c : Nat) (P : Option Addr) (ps : List (List Int)) (pc : Nat) (oth : List Int) (cnt : Int) : Vc (vc (FM := FMp) Xp 32 [con_leaf, con_fold] (la_sfold (i, ((A, (b, c)), (((P, (ps, pc)), (oth, (cnt, ()))), ())))) (ca_sfold (i, ((A, (b, c)), (((P, (ps, pc)), (oth, (cnt, ()))), ())))) [] [] [.cell 6 40, .tmp 7] sg_sfold pr_sfold ps_sfold cd_sfold 300 (i, ((A, (b, c)), (((P, (ps, pc)), (oth, (cnt, ()))), ())))) := by
  refine ⟨Eq.mpr (β := (A.isNone = true → b = []) → (∀ (a : List Int), a ∈ ps → a.length = (32 : Nat)) → oth.length = (32 : Nat) → b.length ≤ (1000000 : Nat) → ∀ (b_1 b_2 : Nat), ((!decide ((↑ps.length : Int) = (5 : Int)) || decide ((32 : Int) < cnt)) = true → ∃ (y : Unit), List.replicate (32 : Nat) (0 : Int) = sfoH i b ps cnt ∧ (32 : Nat) = (32 : Nat) ∧ false = sfoB i ps cnt ∧ (sfoH i b ps cnt).length = (32 : Nat)) ∧ ((!decide ((↑ps.length : Int) = (5 : Int)) || decide ((32 : Int) < cnt)) = false → (b.length = b.length ∧ b.length ≤ (1000000 : Nat) ∧ ∀ (y : Unit), (leafF b).length = (32 : Nat) → (leafF b).length = (32 : Nat) → (ps.length = ps.length ∧ ∀ (y : Unit), (fldH i (leafF b) ps).length = (32 : Nat) → (fldH i (leafF b) ps).length = (32 : Nat) → ∀ (b_3 : Nat), ∃ (y : Unit), fldH i (leafF b) ps = sfoH i b ps cnt ∧ (32 : Nat) = (32 : Nat) ∧ decide (fldE i ps.length = (0 : Int)) = sfoB i ps cnt ∧ (sfoH i b ps cnt).length = (32 : Nat)) ∧ ∀ (b_3 : Nat), ps.length = ps.length ∧ ∀ (y : Unit), (fldH i (leafF b) ps).length = (32 : Nat) → (fldH i (leafF b) ps).length = (32 : Nat) → ∃ (y : Unit), fldH i (leafF b) ps = sfoH i b ps cnt ∧ (32 : Nat) = (32 : Nat) ∧ decide (fldE i ps.length = (0 : Int)) = sfoB i ps cnt ∧ (sfoH i b ps cnt).length = (32 : Nat)) ∧ ∀ (b_3 : Nat), b.length = b.length ∧ b.length ≤ (1000000 : Nat) ∧ ∀ (y : Unit), (leafF b).length = (32 : Nat) → (leafF b).length = (32 : Nat) → ps.length = ps.length ∧ ∀ (y : Unit), (fldH i (leafF b) ps).length = (32 : Nat) → (fldH i (leafF b) ps).length = (32 : Nat) → ∃ (y : Unit), fldH i (leafF b) ps = sfoH i b ps cnt ∧ (32 : Nat) = (32 : Nat) ∧ decide (fldE i ps.length = (0 : Int)) = sfoB i ps cnt ∧ (sfoH i b ps cnt).length = (32 : Nat))) (by kernel_rfl) ?_⟩
  simp only [imin, imax, decide_eq_true_eq, decide_eq_false_iff_not, Prod.forall, Prod.exists, exists_eq_left', exists_eq_left, exists_and_left, exists_and_right, exists_eq_right, exists_eq, exists_eq', true_and, and_true, forall_const, exists_const, eq_self, Bool.not_eq_true, Bool.not_eq_eq_eq_not, Bool.not_true, Bool.not_false, Value.slice.injEq, Option.getD_some, imp_self, implies_true, Option.some.injEq, Addr.mk.injEq, true_or, or_true, List.length_cons, List.length_nil, Nat.zero_add, Nat.reduceAdd]
  intro _ hps _ hb
  refine ⟨fun h => ?_, fun h => ?_⟩
  · simp only [Bool.or_eq_true, Bool.not_eq_true', decide_eq_false_iff_not, decide_eq_true_eq] at h
    have hn : ¬ (ps.length = 5 ∧ cnt ≤ 32) := by omega
    refine ⟨by rw [sfoH, if_neg hn], ?_, by rw [sfoH, if_neg hn]; simp⟩
    unfold sfoB
    symm
    simp only [Bool.and_eq_false_iff, decide_eq_false_iff_not]
    omega
  · simp only [Bool.or_eq_false_iff, Bool.not_eq_false', decide_eq_true_eq, decide_eq_false_iff_not] at h
    have hy : ps.length = 5 ∧ cnt ≤ 32 := by omega
    have K : (fldH i (leafF b) ps).length = 32 → fldH i (leafF b) ps = sfoH i b ps cnt ∧ decide (fldE i ps.length = 0) = sfoB i ps cnt ∧ (sfoH i b ps cnt).length = 32 := fun hl => by
      have e : sfoH i b ps cnt = fldH i (leafF b) ps := by rw [sfoH, if_pos hy]
      refine ⟨e.symm, ?_, by rw [e]; exact hl⟩
      unfold sfoB
      rw [hy.1, decide_eq_true hy.2]
      simp
    exact ⟨⟨hb, fun _ _ => ⟨fun _ h => K h, fun _ h => K h⟩⟩, hb, fun _ _ _ h => K h⟩
noncomputable def con_sfold : Con Xp.P FMp := ⟨70, sg_sfold, pr_sfold, ps_sfold, vc_ok (La := la_sfold) (Ca := ca_sfold) 300 (fn := Go.Proofs.Try.f70) (by kernel_rfl) (c := cd_sfold) (by kernel_rfl) (by kernel_rfl) (by kernel_rfl) (by kernel_rfl) (fun ⟨i, ⟨⟨A, ⟨b, c⟩⟩, ⟨⟨⟨P, ⟨ps, pc⟩⟩, ⟨oth, ⟨cnt, ⟨⟩⟩⟩⟩, ⟨⟩⟩⟩⟩ => vc_sfold i A b c P ps pc oth cnt)⟩
noncomputable def cd_scheck : Code := (Go.Proofs.Try.f41.body).getD .skip
def sg_scheck : List Arg := [.ag [.arr .u8 32], .one (.int .i64), .ag [.int .u64, .int .u64], .ag [.slr 0, .arr .u8 32, .int .u64]]
def pr_scheck : SgT FMp sg_scheck → List Prop
  | ((root, ()), (i, ((to, (am, ())), (((P, (ps, pc)), (oth, (cnt, ()))), ())))) => (fun (root : List Int) (i to am : Int) (P : Option Addr) (ps : List (List Int)) (pc : Nat) (oth : List Int) (cnt : Int) => ([] : List Prop)) root i to am P ps pc oth cnt
def ps_scheck : SgT FMp sg_scheck → PS FMp
  | ((root, ()), (i, ((to, (am, ())), (((P, (ps, pc)), (oth, (cnt, ()))), ())))) => (fun (root : List Int) (i to am : Int) (P : Option Addr) (ps : List (List Int)) (pc : Nat) (oth : List Int) (cnt : Int) => (⟨Unit, fun y => [], fun y => one (.bool (ckO root i to am ps oth cnt)), fun y => [], fun y => []⟩ : PS FMp)) root i to am P ps pc oth cnt
def la_scheck : SgT FMp sg_scheck → List (Nat × (SS FMp → HA FMp))
  | ((root, ()), (i, ((to, (am, ())), (((P, (ps, pc)), (oth, (cnt, ()))), ())))) => (fun (root : List Int) (i to am : Int) (P : Option Addr) (ps : List (List Int)) (pc : Nat) (oth : List Int) (cnt : Int) => ([] : List (Nat × (SS FMp → HA FMp)))) root i to am P ps pc oth cnt
def ca_scheck : SgT FMp sg_scheck → List (Nat × (SS FMp → HA FMp))
  | ((root, ()), (i, ((to, (am, ())), (((P, (ps, pc)), (oth, (cnt, ()))), ())))) => (fun (root : List Int) (i to am : Int) (P : Option Addr) (ps : List (List Int)) (pc : Nat) (oth : List Int) (cnt : Int) => ([] : List (Nat × (SS FMp → HA FMp)))) root i to am P ps pc oth cnt
theorem vc_scheck (root : List Int) (i to am : Int) (P : Option Addr) (ps : List (List Int)) (pc : Nat) (oth : List Int) (cnt : Int) : Vc (vc (FM := FMp) Xp 37 [con_soutb, con_sfold, con_stop_] (la_scheck ((root, ()), (i, ((to, (am, ())), (((P, (ps, pc)), (oth, (cnt, ()))), ()))))) (ca_scheck ((root, ()), (i, ((to, (am, ())), (((P, (ps, pc)), (oth, (cnt, ()))), ()))))) [] [] [.tmp 8] sg_scheck pr_scheck ps_scheck cd_scheck 300 ((root, ()), (i, ((to, (am, ())), (((P, (ps, pc)), (oth, (cnt, ()))), ()))))) := by
  refine ⟨Eq.mpr (β := root.length = (32 : Nat) → (∀ (a : List Int), a ∈ ps → a.length = (32 : Nat)) → oth.length = (32 : Nat) → ∀ (b b b : Nat), (∀ (y : Option Addr × Nat), (e16 to am).length = (e16 to am).length → (e16 to am).length ≤ y.2 → ((e16 to am).length = (e16 to am).length ∧ ps.length = ps.length ∧ (e16 to am).length ≤ (1000000 : Nat) ∧ ∀ (y : Unit), (sfoH i (e16 to am) ps cnt).length = (32 : Nat) → (sfoH i (e16 to am) ps cnt).length = (32 : Nat) → ∀ (b : Nat), ((sfoB i ps cnt && decide (IntKind.u64.wrap i < cnt)) = true → ∀ (y : Unit), (topF oth (sfoH i (e16 to am) ps cnt) cnt).length = (32 : Nat) → (topF oth (sfoH i (e16 to am) ps cnt) cnt).length = (32 : Nat) → ∃ (y : Unit), decide (topF oth (sfoH i (e16 to am) ps cnt) cnt = root) = ckO root i to am ps oth cnt) ∧ ((sfoB i ps cnt && decide (IntKind.u64.wrap i < cnt)) = false → ∃ (y : Unit), false = ckO root i to am ps oth cnt)) ∧ ∀ (b : Nat), (e16 to am).length = (e16 to am).length ∧ ps.length = ps.length ∧ (e16 to am).length ≤ (1000000 : Nat) ∧ ∀ (y : Unit), (sfoH i (e16 to am) ps cnt).length = (32 : Nat) → (sfoH i (e16 to am) ps cnt).length = (32 : Nat) → ((sfoB i ps cnt && decide (IntKind.u64.wrap i < cnt)) = true → ∀ (y : Unit), (topF oth (sfoH i (e16 to am) ps cnt) cnt).length = (32 : Nat) → (topF oth (sfoH i (e16 to am) ps cnt) cnt).length = (32 : Nat) → ∃ (y : Unit), decide (topF oth (sfoH i (e16 to am) ps cnt) cnt = root) = ckO root i to am ps oth cnt) ∧ ((sfoB i ps cnt && decide (IntKind.u64.wrap i < cnt)) = false → ∃ (y : Unit), false = ckO root i to am ps oth cnt)) ∧ ∀ (b : Nat) (y : Option Addr × Nat), (e16 to am).length = (e16 to am).length → (e16 to am).length ≤ y.2 → (e16 to am).length = (e16 to am).length ∧ ps.length = ps.length ∧ (e16 to am).length ≤ (1000000 : Nat) ∧ ∀ (y : Unit), (sfoH i (e16 to am) ps cnt).length = (32 : Nat) → (sfoH i (e16 to am) ps cnt).length = (32 : Nat) → ((sfoB i ps cnt && decide (IntKind.u64.wrap i < cnt)) = true → ∀ (y : Unit), (topF oth (sfoH i (e16 to am) ps cnt) cnt).length = (32 : Nat) → (topF oth (sfoH i (e16 to am) ps cnt) cnt).length = (32 : Nat) → ∃ (y : Unit), decide (topF oth (sfoH i (e16 to am) ps cnt) cnt = root) = ckO root i to am ps oth cnt) ∧ ((sfoB i ps cnt && decide (IntKind.u64.wrap i < cnt)) = false → ∃ (y : Unit), false = ckO root i to am ps oth cnt)) (by kernel_rfl) ?_⟩
  simp only [imin, imax, decide_eq_true_eq, decide_eq_false_iff_not, Prod.forall, Prod.exists, exists_eq_left', exists_eq_left, exists_and_left, exists_and_right, exists_eq_right, exists_eq, exists_eq', true_and, and_true, forall_const, exists_const, eq_self, Bool.not_eq_true, Bool.not_eq_eq_eq_not, Bool.not_true, Bool.not_false, Value.slice.injEq, Option.getD_some, imp_self, implies_true, Option.some.injEq, Addr.mk.injEq, true_or, or_true, List.length_cons, List.length_nil, Nat.zero_add, Nat.reduceAdd]
  intro _ _ _
  have C1 : (sfoB i ps cnt && decide (IntKind.u64.wrap i < cnt)) = true → decide (topF oth (sfoH i (e16 to am) ps cnt) cnt = root) = ckO root i to am ps oth cnt := fun h => by unfold ckO; rw [h, Bool.true_and]
  have C2 : (sfoB i ps cnt && decide (IntKind.u64.wrap i < cnt)) = false → false = ckO root i to am ps oth cnt := fun h => by unfold ckO; rw [h, Bool.false_and]
  have hl : (e16 to am).length ≤ 1000000 := by rw [e16_length]; omega
  exact ⟨fun _ _ => ⟨⟨hl, fun _ _ => ⟨fun h _ _ => C1 h, C2⟩⟩, hl, fun _ _ => ⟨fun h _ _ => C1 h, C2⟩⟩, fun _ _ => ⟨hl, fun _ _ => ⟨fun h _ _ => C1 h, C2⟩⟩⟩
noncomputable def con_scheck : Con Xp.P FMp := ⟨41, sg_scheck, pr_scheck, ps_scheck, vc_ok (La := la_scheck) (Ca := ca_scheck) 300 (fn := Go.Proofs.Try.f41) (by kernel_rfl) (c := cd_scheck) (by kernel_rfl) (by kernel_rfl) (by kernel_rfl) (by kernel_rfl) (fun ⟨⟨root, ⟨⟩⟩, ⟨i, ⟨⟨to, ⟨am, ⟨⟩⟩⟩, ⟨⟨⟨P, ⟨ps, pc⟩⟩, ⟨oth, ⟨cnt, ⟨⟩⟩⟩⟩, ⟨⟩⟩⟩⟩⟩ => vc_scheck root i to am P ps pc oth cnt)⟩

end Go.Pw
end
section
/-
  Walks by computing. No condition.
-/
set_option linter.all false
set_option maxRecDepth 100000
set_option maxHeartbeats 1000000
namespace Go.Pw
open Go Go.Px Go.RowKit
attribute [local irreducible] shaF

def prfN (ls : List (List Int)) (i n : Nat) : List (List Int) := (List.range n).map fun d => (lvl ls d).getD (i / 2 ^ d ^^^ 1) (emp d)
def prfL (d : Int) (ls : List (List Int)) (i : Int) : List (List Int) := if askV d i ls.length = 0 then prfN ls i.toNat d.toNat else []
theorem prfN_length (ls : List (List Int)) (i n : Nat) : (prfN ls i n).length = n := by simp [prfN]
theorem prfN_succ (ls : List (List Int)) (i n : Nat) : prfN ls i (n + 1) = prfN ls i n ++ [(lvl ls n).getD (i / 2 ^ n ^^^ 1) (emp n)] := by simp [prfN, List.range_succ]
theorem xor1 {x : Int} (h0 : 0 ≤ x) (h1 : x < 65536) : bxr .i64 x 1 = ((x.toNat ^^^ 1 : Nat) : Int) := by
  have e : ((BitVec.ofInt 64 x ^^^ BitVec.ofInt 64 1).toNat : Int) = ((x.toNat ^^^ 1 : Nat) : Int) := by
    rw [BitVec.toNat_xor, BitVec.toNat_ofInt, BitVec.toNat_ofInt]
    have e1 : (x % ((2 ^ 64 : Nat) : Int)).toNat = x.toNat := by rw [Int.emod_eq_of_lt h0 (by omega)]
    rw [e1]; rfl
  show IntKind.i64.wrap ((BitVec.ofInt 64 x ^^^ BitVec.ofInt 64 1).toNat : Int) = _
  rw [e]
  have : x.toNat ^^^ 1 < 2 ^ 16 := Nat.xor_lt_two_pow (by omega) (by omega)
  exact wi64 (by omega) (by omega)
theorem sib_i {i d : Int} (h0 : 0 ≤ i) (hi : i < 65536) (h1 : 0 ≤ d) (h2 : d ≤ 16) : bxr .i64 (shrV .i64 i d) 1 = ((i.toNat / 2 ^ d.toNat ^^^ 1 : Nat) : Int) := by
  have hm := Nat.div_le_self i.toNat (2 ^ d.toNat)
  rw [shr_i h0 h1 h2]
  generalize i.toNat / 2 ^ d.toNat = m at hm ⊢
  rw [xor1 (by omega) (by omega), Int.toNat_natCast]
theorem ask_prf {d i : Int} {n : Nat} (h : askV d i n = 0) : 0 ≤ d ∧ d ≤ 16 ∧ 0 ≤ i ∧ i < 2 ^ d.toNat ∧ i < 65536 ∧ (n : Int) ≤ 2 ^ d.toNat ∧ n ≤ 65536 := by
  unfold askV at h
  split at h
  · rename_i h0
    split at h
    · cases h
    · have := pow16 (n := d.toNat) (by omega); exact ⟨h0.1, h0.2.1, h0.2.2.1, h0.2.2.2, by omega, by omega, by omega⟩
  · cases h

noncomputable def cd_mproof : Code := (Go.Proofs.Try.f102.body).getD .skip
def sg_mproof : List Arg := [.one (.int .i64), .one (.slr 0), .one (.int .i64)]
def pr_mproof : SgT FMp sg_mproof → List Prop
  | (d, ((A, (ls, c)), (i, ()))) => (fun (d : Int) (A : Option Addr) (ls : List (List Int)) (c : Nat) (i : Int) => ([] : List Prop)) d A ls c i
def ps_mproof : SgT FMp sg_mproof → PS FMp
  | (d, ((A, (ls, c)), (i, ()))) => (fun (d : Int) (A : Option Addr) (ls : List (List Int)) (c : Nat) (i : Int) => (⟨(Option Addr) × Nat, fun y => [.ad y.1], fun y => .tup [.one (.sc 0 0 (prfL d ls i).length y.2 false), .one (.xv (.int .i64 (askV d i ls.length)))], fun y => [.sl 0 ((prfL d ls i).length) y.2 [.f 0 ((prfL d ls i)) ((prfL d ls i).length)] 40 32], fun y => [(prfL d ls i).length ≤ y.2, ∀ a ∈ prfL d ls i, a.length = 32]⟩ : PS FMp)) d A ls c i
def la_mproof : SgT FMp sg_mproof → List (Nat × (SS FMp → HA FMp))
  | (d, ((A, (ls, c)), (i, ()))) => (fun (d : Int) (A : Option Addr) (ls : List (List Int)) (c : Nat) (i : Int) => ([(11600003, fun S => ⟨Int × Nat × (List (List Int)) × (List (List Int)) × (Option Addr) × Nat, fun y => [.ad y.2.2.2.2.1], fun n y => [(19, some (one (.int .i64 (y.1)))), (11, some (.v (.one (.sc 5 0 y.2.1 (la_q S 11) true))))], fun n y => (.sl n (y.2.2.2.1.length) y.2.2.2.2.2 [.f 0 (y.2.2.2.1) (y.2.2.2.1.length)] 40 32) :: setId (setId S.m 5 [.f 0 y.2.2.1 ls.length]) 3 [.b (.cl (.sc n 0 y.2.2.2.1.length y.2.2.2.2.2 false))], fun y => [0 ≤ y.1, y.1 ≤ d, y.2.1 ≤ ls.length, y.2.2.1.take y.2.1 = lvl ls y.1.toNat, y.2.2.2.1 = prfN ls i.toNat y.1.toNat, y.2.2.2.1.length ≤ y.2.2.2.2.2], fun y => (d - y.1).toNat⟩), (11600008, fun S => ⟨Int × Int × (List (List Int)), fun y => [], fun n y => [(13, some (one (.int .i64 (y.1)))), (14, some (one (.int .i64 (y.2.1))))], fun n y => setId S.m 5 [.f 0 y.2.2 ls.length], fun y => [0 ≤ y.1, y.2.1 = 2 * y.1, y.2.1 ≤ la_n S 11 + 1, y.2.2 = itN (stp (emp (la_i S 12).toNat) (la_n S 11)) y.1.toNat (la_F S 5)], fun y => (la_n S 11 + 2 - y.2.1).toNat⟩)] : List (Nat × (SS FMp → HA FMp)))) d A ls c i
def ca_mproof : SgT FMp sg_mproof → List (Nat × (SS FMp → HA FMp))
  | (d, ((A, (ls, c)), (i, ()))) => (fun (d : Int) (A : Option Addr) (ls : List (List Int)) (c : Nat) (i : Int) => ([(12200004, fun S => ⟨(List Int), fun y => [], fun n y => [], fun n y => setId S.m 7 (zz .u8 y 32), fun y => [y = (lvl ls (la_i S 0).toNat).getD (i.toNat / 2 ^ (la_i S 0).toNat ^^^ 1) (emp (la_i S 0).toNat)], fun y => 0⟩)] : List (Nat × (SS FMp → HA FMp)))) d A ls c i
theorem vc_mproof (d : Int) (A : Option Addr) (ls : List (List Int)) (c : Nat) (i : Int) : Vc (vc (FM := FMp) Xp 27 [con_asked, con_none_, con_pair] (la_mproof (d, ((A, (ls, c)), (i, ())))) (ca_mproof (d, ((A, (ls, c)), (i, ())))) [] [115, 120, 121] [.tmp 6, .tmp 7] sg_mproof pr_mproof ps_mproof cd_mproof 300 (d, ((A, (ls, c)), (i, ())))) := by
  refine ⟨Eq.mpr (β := (∀ (a : List Int), a ∈ ls → a.length = (32 : Nat)) → ∀ (b : Nat) (y : Unit), ((!decide (askV d i (↑ls.length : Int) = (0 : Int))) = true → ∃ (y : Option Addr × Nat), Value.slice none (0 : Nat) (0 : Nat) = Value.slice y.1 (prfL d ls i).length y.2 ∧ askV d i (↑ls.length : Int) = askV d i (↑ls.length : Int) ∧ y.1 = none ∧ (prfL d ls i).length = (0 : Nat) ∧ y.2 = (0 : Nat) ∧ prfL d ls i = [] ∧ (prfL d ls i).length = (0 : Nat) ∧ (prfL d ls i).length ≤ y.2 ∧ ∀ (a : List Int), a ∈ prfL d ls i → a.length = (32 : Nat)) ∧ ((!decide (askV d i (↑ls.length : Int) = (0 : Int))) = false → (0 : Int) ≤ d ∧ d ≤ (16 : Int) ∧ ∀ (y : Unit), (nl (d.toNat + (1 : Nat))).length = (17 : Nat) → (∀ (a : List Int), a ∈ nl (d.toNat + (1 : Nat)) → a.length = (32 : Nat)) → (nl (d.toNat + (1 : Nat))).length = (17 : Nat) → (∀ (a : List Int), a ∈ nl (d.toNat + (1 : Nat)) → a.length = (32 : Nat)) → ∀ (b b b : Nat), ls.length = ls.length ∧ ls.length * Proofs.Try.prog.types[(40 : Nat)].bytes ≤ (140737488355328 : Nat) ∧ ∀ (A : Option Addr) (q : Nat), ls.length ≤ q → (∃ (y : Int × Nat × List (List Int) × List (List Int) × Option Addr × Nat), (0 : Int) = y.1 ∧ ls.length = y.2.1 ∧ q = q ∧ y.snd.snd.snd.2.1 = none ∧ y.snd.snd.2.1.length = (0 : Nat) ∧ y.snd.snd.snd.2.2 = (0 : Nat) ∧ y.snd.snd.2.1 = [] ∧ y.snd.snd.2.1.length = (0 : Nat) ∧ ls.length = ls.length ∧ q = q ∧ ls = y.snd.2.1 ∧ ls.length = ls.length ∧ List.replicate (32 : Nat) (0 : Int) = List.replicate (32 : Nat) (0 : Int) ∧ (32 : Nat) = (32 : Nat) ∧ Value.slice none (0 : Nat) (0 : Nat) = Value.slice y.snd.snd.snd.2.1 y.snd.snd.2.1.length y.snd.snd.snd.2.2 ∧ nl (d.toNat + (1 : Nat)) = nl (d.toNat + (1 : Nat)) ∧ (17 : Nat) = (17 : Nat) ∧ i = i ∧ (0 : Int) ≤ y.1 ∧ y.1 ≤ d ∧ y.2.1 ≤ ls.length ∧ List.take y.2.1 y.snd.2.1 = lvl ls y.1.toNat ∧ y.snd.snd.2.1 = prfN ls i.toNat y.1.toNat ∧ y.snd.snd.2.1.length ≤ y.snd.snd.snd.2.2) ∧ ∀ (y : Int × Nat × List (List Int) × List (List Int) × Option Addr × Nat), y.snd.snd.2.1.length = y.snd.snd.2.1.length → (∀ (a : List Int), a ∈ y.snd.snd.2.1 → a.length = (32 : Nat)) → y.snd.2.1.length = ls.length → (∀ (a : List Int), a ∈ y.snd.2.1 → a.length = (32 : Nat)) → (32 : Nat) = (32 : Nat) → (nl (d.toNat + (1 : Nat))).length = (17 : Nat) → (∀ (a : List Int), a ∈ nl (d.toNat + (1 : Nat)) → a.length = (32 : Nat)) → (0 : Int) ≤ y.1 → y.1 ≤ d → y.2.1 ≤ ls.length → List.take y.2.1 y.snd.2.1 = lvl ls y.1.toNat → y.snd.snd.2.1 = prfN ls i.toNat y.1.toNat → y.snd.snd.2.1.length ≤ y.snd.snd.snd.2.2 → (decide (y.1 < d) = true → (0 : Int) ≤ y.1 ∧ y.1 < (17 : Int) ∧ y.1.toNat < (17 : Nat) ∧ ∀ (b : Nat), ((0 : Int) ≤ y.1 ∧ (decide (bxr IntKind.i64 (shrV IntKind.i64 i y.1) (1 : Int) < (↑y.2.1 : Int)) = true → (0 : Int) ≤ bxr IntKind.i64 (shrV IntKind.i64 i y.1) (1 : Int) ∧ bxr IntKind.i64 (shrV IntKind.i64 i y.1) (1 : Int) < (↑y.2.1 : Int) ∧ (bxr IntKind.i64 (shrV IntKind.i64 i y.1) (1 : Int)).toNat < ls.length ∧ (bxr IntKind.i64 (shrV IntKind.i64 i y.1) (1 : Int)).toNat < ls.length ∧ ∃ (y_1 : List Int), y.snd.2.1.getD (bxr IntKind.i64 (shrV IntKind.i64 i y.1) (1 : Int)).toNat (List.replicate (32 : Nat) (0 : Int)) = y_1 ∧ (32 : Nat) = (32 : Nat) ∧ y.snd.snd.2.1.length = y.snd.snd.2.1.length ∧ y.snd.snd.snd.2.2 = y.snd.snd.snd.2.2 ∧ y.snd.snd.2.1 = y.snd.snd.2.1 ∧ y.snd.snd.2.1.length = y.snd.snd.2.1.length ∧ ls.length = ls.length ∧ q = q ∧ y.snd.2.1 = y.snd.2.1 ∧ ls.length = ls.length ∧ List.replicate (32 : Nat) (0 : Int) = List.replicate (32 : Nat) (0 : Int) ∧ (32 : Nat) = (32 : Nat) ∧ y.snd.snd.2.1.length = y.snd.snd.2.1.length ∧ y.snd.snd.snd.2.2 = y.snd.snd.snd.2.2 ∧ nl (d.toNat + (1 : Nat)) = nl (d.toNat + (1 : Nat)) ∧ (17 : Nat) = (17 : Nat) ∧ i = i ∧ y_1 = (lvl ls y.1.toNat).getD (i.toNat / (2 : Nat) ^ y.1.toNat ^^^ (1 : Nat)) (emp y.1.toNat)) ∧ (decide (bxr IntKind.i64 (shrV IntKind.i64 i y.1) (1 : Int) < (↑y.2.1 : Int)) = false → ∃ (y_1 : List Int), (nl (d.toNat + (1 : Nat))).getD y.1.toNat (List.replicate (32 : Nat) (0 : Int)) = y_1 ∧ (32 : Nat) = (32 : Nat) ∧ y.snd.snd.2.1.length = y.snd.snd.2.1.length ∧ y.snd.snd.snd.2.2 = y.snd.snd.snd.2.2 ∧ y.snd.snd.2.1 = y.snd.snd.2.1 ∧ y.snd.snd.2.1.length = y.snd.snd.2.1.length ∧ ls.length = ls.length ∧ q = q ∧ y.snd.2.1 = y.snd.2.1 ∧ ls.length = ls.length ∧ List.replicate (32 : Nat) (0 : Int) = List.replicate (32 : Nat) (0 : Int) ∧ (32 : Nat) = (32 : Nat) ∧ y.snd.snd.2.1.length = y.snd.snd.2.1.length ∧ y.snd.snd.snd.2.2 = y.snd.snd.snd.2.2 ∧ nl (d.toNat + (1 : Nat)) = nl (d.toNat + (1 : Nat)) ∧ (17 : Nat) = (17 : Nat) ∧ i = i ∧ y_1 = (lvl ls y.1.toNat).getD (i.toNat / (2 : Nat) ^ y.1.toNat ^^^ (1 : Nat)) (emp y.1.toNat))) ∧ ∀ (y_1 : List Int), y_1.length = (32 : Nat) → y.snd.snd.2.1.length = y.snd.snd.2.1.length → (∀ (a : List Int), a ∈ y.snd.snd.2.1 → a.length = (32 : Nat)) → y.snd.2.1.length = ls.length → (∀ (a : List Int), a ∈ y.snd.2.1 → a.length = (32 : Nat)) → (32 : Nat) = (32 : Nat) → (nl (d.toNat + (1 : Nat))).length = (17 : Nat) → (∀ (a : List Int), a ∈ nl (d.toNat + (1 : Nat)) → a.length = (32 : Nat)) → y_1 = (lvl ls y.1.toNat).getD (i.toNat / (2 : Nat) ^ y.1.toNat ^^^ (1 : Nat)) (emp y.1.toNat) → ∀ (b : Nat), y.snd.snd.2.1.length = y.snd.snd.2.1.length ∧ y.snd.snd.snd.2.2 = y.snd.snd.snd.2.2 ∧ (1 : Nat) = (1 : Nat) ∧ (y.snd.snd.2.1.length + (1 : Nat)) * Proofs.Try.prog.types[(40 : Nat)].bytes ≤ (140737488355328 : Nat) ∧ ∀ (A : Option Addr) (q_1 : Nat), y.snd.snd.2.1.length + (1 : Nat) ≤ q_1 → (∃ (y_2 : Int × Int × List (List Int)), (0 : Int) = y_2.1 ∧ (0 : Int) = y_2.2.1 ∧ (1 : Nat) = (1 : Nat) ∧ (1 : Nat) = (1 : Nat) ∧ [y_1] = [y_1] ∧ (1 : Nat) = (1 : Nat) ∧ y_1 = y_1 ∧ (32 : Nat) = (32 : Nat) ∧ y.snd.snd.2.1.length + (1 : Nat) = y.snd.snd.2.1.length + (1 : Nat) ∧ q_1 = q_1 ∧ y.snd.snd.2.1 ++ [y_1] = y.snd.snd.2.1 ++ [y_1] ∧ y.snd.snd.2.1.length + (1 : Nat) = y.snd.snd.2.1.length + (1 : Nat) ∧ ls.length = ls.length ∧ q = q ∧ y.snd.2.1 = y_2.2.2 ∧ ls.length = ls.length ∧ List.replicate (32 : Nat) (0 : Int) = List.replicate (32 : Nat) (0 : Int) ∧ (32 : Nat) = (32 : Nat) ∧ y.snd.snd.2.1.length + (1 : Nat) = y.snd.snd.2.1.length + (1 : Nat) ∧ q_1 = q_1 ∧ nl (d.toNat + (1 : Nat)) = nl (d.toNat + (1 : Nat)) ∧ (17 : Nat) = (17 : Nat) ∧ i = i ∧ (0 : Int) ≤ y_2.1 ∧ y_2.2.1 = (2 : Int) * y_2.1 ∧ y_2.2.1 ≤ (↑y.2.1 : Int) + (1 : Int) ∧ y_2.2.2 = itN (stp (emp y.1.toNat) y.2.1) y_2.1.toNat y.snd.2.1) ∧ ∀ (y_2 : Int × Int × List (List Int)), [y_1].length = (1 : Nat) → (∀ (a : List Int), a ∈ [y_1] → a.length = (32 : Nat)) → y_1.length = (32 : Nat) → (y.snd.snd.2.1 ++ [y_1]).length = y.snd.snd.2.1.length + (1 : Nat) → (∀ (a : List Int), a ∈ y.snd.snd.2.1 ++ [y_1] → a.length = (32 : Nat)) → y_2.2.2.length = ls.length → (∀ (a : List Int), a ∈ y_2.2.2 → a.length = (32 : Nat)) → (32 : Nat) = (32 : Nat) → (nl (d.toNat + (1 : Nat))).length = (17 : Nat) → (∀ (a : List Int), a ∈ nl (d.toNat + (1 : Nat)) → a.length = (32 : Nat)) → (0 : Int) ≤ y_2.1 → y_2.2.1 = (2 : Int) * y_2.1 → y_2.2.1 ≤ (↑y.2.1 : Int) + (1 : Int) → y_2.2.2 = itN (stp (emp y.1.toNat) y.2.1) y_2.1.toNat y.snd.2.1 → (decide (y_2.2.1 < (↑y.2.1 : Int)) = true → ∀ (b : Nat), (0 : Int) ≤ y.1 ∧ y.1 < (17 : Int) ∧ y.1.toNat < (17 : Nat) ∧ ∀ (b : Nat), (-9223372036854775808 : Int) ≤ y_2.2.1 + (1 : Int) ∧ y_2.2.1 + (1 : Int) ≤ (9223372036854775807 : Int) ∧ (decide (y_2.2.1 + (1 : Int) < (↑y.2.1 : Int)) = true → (-9223372036854775808 : Int) ≤ y_2.2.1 + (1 : Int) ∧ y_2.2.1 + (1 : Int) ≤ (9223372036854775807 : Int) ∧ (0 : Int) ≤ y_2.2.1 + (1 : Int) ∧ y_2.2.1 + (1 : Int) < (↑y.2.1 : Int) ∧ (y_2.2.1 + (1 : Int)).toNat < ls.length ∧ (y_2.2.1 + (1 : Int)).toNat < ls.length ∧ (0 : Int) ≤ y_2.2.1 ∧ y_2.2.1 < (↑y.2.1 : Int) ∧ y_2.2.1.toNat < ls.length ∧ y_2.2.1.toNat < ls.length ∧ ∀ (y_3 : Unit), (shaF ([(1 : Int)] ++ y_2.2.2.getD y_2.2.1.toNat (List.replicate (32 : Nat) (0 : Int)) ++ y_2.2.2.getD (y_2.2.1 + (1 : Int)).toNat (List.replicate (32 : Nat) (0 : Int)))).length = (32 : Nat) → (shaF ([(1 : Int)] ++ y_2.2.2.getD y_2.2.1.toNat (List.replicate (32 : Nat) (0 : Int)) ++ y_2.2.2.getD (y_2.2.1 + (1 : Int)).toNat (List.replicate (32 : Nat) (0 : Int)))).length = (32 : Nat) → (0 : Int) ≤ y_2.1 ∧ y_2.1 < (↑y.2.1 : Int) ∧ y_2.1.toNat < ls.length ∧ y_2.1.toNat < ls.length ∧ (-9223372036854775808 : Int) ≤ y_2.1 + (1 : Int) ∧ y_2.1 + (1 : Int) ≤ (9223372036854775807 : Int) ∧ (-9223372036854775808 : Int) ≤ y_2.2.1 + (2 : Int) ∧ y_2.2.1 + (2 : Int) ≤ (9223372036854775807 : Int) ∧ ∃ (y_4 : Int × Int × List (List Int)), y_2.1 + (1 : Int) = y_4.1 ∧ y_2.2.1 + (2 : Int) = y_4.2.1 ∧ (1 : Nat) = (1 : Nat) ∧ (1 : Nat) = (1 : Nat) ∧ [y_1] = [y_1] ∧ (1 : Nat) = (1 : Nat) ∧ y_1 = y_1 ∧ (32 : Nat) = (32 : Nat) ∧ y.snd.snd.2.1.length + (1 : Nat) = y.snd.snd.2.1.length + (1 : Nat) ∧ q_1 = q_1 ∧ y.snd.snd.2.1 ++ [y_1] = y.snd.snd.2.1 ++ [y_1] ∧ y.snd.snd.2.1.length + (1 : Nat) = y.snd.snd.2.1.length + (1 : Nat) ∧ ls.length = ls.length ∧ q = q ∧ y_2.2.2.set y_2.1.toNat (shaF ([(1 : Int)] ++ y_2.2.2.getD y_2.2.1.toNat (List.replicate (32 : Nat) (0 : Int)) ++ y_2.2.2.getD (y_2.2.1 + (1 : Int)).toNat (List.replicate (32 : Nat) (0 : Int)))) = y_4.2.2 ∧ ls.length = ls.length ∧ List.replicate (32 : Nat) (0 : Int) = List.replicate (32 : Nat) (0 : Int) ∧ (32 : Nat) = (32 : Nat) ∧ y.snd.snd.2.1.length + (1 : Nat) = y.snd.snd.2.1.length + (1 : Nat) ∧ q_1 = q_1 ∧ nl (d.toNat + (1 : Nat)) = nl (d.toNat + (1 : Nat)) ∧ (17 : Nat) = (17 : Nat) ∧ i = i ∧ (0 : Int) ≤ y_4.1 ∧ y_4.2.1 = (2 : Int) * y_4.1 ∧ y_4.2.1 ≤ (↑y.2.1 : Int) + (1 : Int) ∧ y_4.2.2 = itN (stp (emp y.1.toNat) y.2.1) y_4.1.toNat y.snd.2.1 ∧ ((↑y.2.1 : Int) + (2 : Int) - y_4.2.1).toNat < ((↑y.2.1 : Int) + (2 : Int) - y_2.2.1).toNat) ∧ (decide (y_2.2.1 + (1 : Int) < (↑y.2.1 : Int)) = false → (0 : Int) ≤ y_2.2.1 ∧ y_2.2.1 < (↑y.2.1 : Int) ∧ y_2.2.1.toNat < ls.length ∧ y_2.2.1.toNat < ls.length ∧ ∀ (y_3 : Unit), (shaF ([(1 : Int)] ++ y_2.2.2.getD y_2.2.1.toNat (List.replicate (32 : Nat) (0 : Int)) ++ (nl (d.toNat + (1 : Nat))).getD y.1.toNat (List.replicate (32 : Nat) (0 : Int)))).length = (32 : Nat) → (shaF ([(1 : Int)] ++ y_2.2.2.getD y_2.2.1.toNat (List.replicate (32 : Nat) (0 : Int)) ++ (nl (d.toNat + (1 : Nat))).getD y.1.toNat (List.replicate (32 : Nat) (0 : Int)))).length = (32 : Nat) → (0 : Int) ≤ y_2.1 ∧ y_2.1 < (↑y.2.1 : Int) ∧ y_2.1.toNat < ls.length ∧ y_2.1.toNat < ls.length ∧ (-9223372036854775808 : Int) ≤ y_2.1 + (1 : Int) ∧ y_2.1 + (1 : Int) ≤ (9223372036854775807 : Int) ∧ (-9223372036854775808 : Int) ≤ y_2.2.1 + (2 : Int) ∧ y_2.2.1 + (2 : Int) ≤ (9223372036854775807 : Int) ∧ ∃ (y_4 : Int × Int × List (List Int)), y_2.1 + (1 : Int) = y_4.1 ∧ y_2.2.1 + (2 : Int) = y_4.2.1 ∧ (1 : Nat) = (1 : Nat) ∧ (1 : Nat) = (1 : Nat) ∧ [y_1] = [y_1] ∧ (1 : Nat) = (1 : Nat) ∧ y_1 = y_1 ∧ (32 : Nat) = (32 : Nat) ∧ y.snd.snd.2.1.length + (1 : Nat) = y.snd.snd.2.1.length + (1 : Nat) ∧ q_1 = q_1 ∧ y.snd.snd.2.1 ++ [y_1] = y.snd.snd.2.1 ++ [y_1] ∧ y.snd.snd.2.1.length + (1 : Nat) = y.snd.snd.2.1.length + (1 : Nat) ∧ ls.length = ls.length ∧ q = q ∧ y_2.2.2.set y_2.1.toNat (shaF ([(1 : Int)] ++ y_2.2.2.getD y_2.2.1.toNat (List.replicate (32 : Nat) (0 : Int)) ++ (nl (d.toNat + (1 : Nat))).getD y.1.toNat (List.replicate (32 : Nat) (0 : Int)))) = y_4.2.2 ∧ ls.length = ls.length ∧ List.replicate (32 : Nat) (0 : Int) = List.replicate (32 : Nat) (0 : Int) ∧ (32 : Nat) = (32 : Nat) ∧ y.snd.snd.2.1.length + (1 : Nat) = y.snd.snd.2.1.length + (1 : Nat) ∧ q_1 = q_1 ∧ nl (d.toNat + (1 : Nat)) = nl (d.toNat + (1 : Nat)) ∧ (17 : Nat) = (17 : Nat) ∧ i = i ∧ (0 : Int) ≤ y_4.1 ∧ y_4.2.1 = (2 : Int) * y_4.1 ∧ y_4.2.1 ≤ (↑y.2.1 : Int) + (1 : Int) ∧ y_4.2.2 = itN (stp (emp y.1.toNat) y.2.1) y_4.1.toNat y.snd.2.1 ∧ ((↑y.2.1 : Int) + (2 : Int) - y_4.2.1).toNat < ((↑y.2.1 : Int) + (2 : Int) - y_2.2.1).toNat)) ∧ (decide (y_2.2.1 < (↑y.2.1 : Int)) = false → (0 : Int) ≤ y_2.1 ∧ y_2.1 ≤ (↑q : Int) ∧ (-9223372036854775808 : Int) ≤ y.1 + (1 : Int) ∧ y.1 + (1 : Int) ≤ (9223372036854775807 : Int) ∧ ∃ (y_3 : Int × Nat × List (List Int) × List (List Int) × Option Addr × Nat), y.1 + (1 : Int) = y_3.1 ∧ y_2.1.toNat = y_3.2.1 ∧ q = q ∧ A = y_3.snd.snd.snd.2.1 ∧ y.snd.snd.2.1.length + (1 : Nat) = y_3.snd.snd.2.1.length ∧ q_1 = y_3.snd.snd.snd.2.2 ∧ y.snd.snd.2.1 ++ [y_1] = y_3.snd.snd.2.1 ∧ y.snd.snd.2.1.length + (1 : Nat) = y_3.snd.snd.2.1.length ∧ ls.length = ls.length ∧ q = q ∧ y_2.2.2 = y_3.snd.2.1 ∧ ls.length = ls.length ∧ List.replicate (32 : Nat) (0 : Int) = List.replicate (32 : Nat) (0 : Int) ∧ (32 : Nat) = (32 : Nat) ∧ A = y_3.snd.snd.snd.2.1 ∧ y.snd.snd.2.1.length + (1 : Nat) = y_3.snd.snd.2.1.length ∧ q_1 = y_3.snd.snd.snd.2.2 ∧ nl (d.toNat + (1 : Nat)) = nl (d.toNat + (1 : Nat)) ∧ (17 : Nat) = (17 : Nat) ∧ i = i ∧ (0 : Int) ≤ y_3.1 ∧ y_3.1 ≤ d ∧ y_3.2.1 ≤ ls.length ∧ List.take y_3.2.1 y_3.snd.2.1 = lvl ls y_3.1.toNat ∧ y_3.snd.snd.2.1 = prfN ls i.toNat y_3.1.toNat ∧ y_3.snd.snd.2.1.length ≤ y_3.snd.snd.snd.2.2 ∧ (d - y_3.1).toNat < (d - y.1).toNat)) ∧ (decide (y.1 < d) = false → (decide ((↑y.2.1 : Int) = (0 : Int)) = true → ∀ (b : Nat), (0 : Int) ≤ d ∧ d < (17 : Int) ∧ d.toNat < (17 : Nat) ∧ ∃ (y_1 : Option Addr × Nat), y.snd.snd.snd.2.1 = y_1.1 ∧ y.snd.snd.2.1.length = (prfL d ls i).length ∧ y.snd.snd.snd.2.2 = y_1.2 ∧ (0 : Int) = askV d i (↑ls.length : Int) ∧ y.snd.snd.snd.2.1 = y_1.1 ∧ y.snd.snd.2.1.length = (prfL d ls i).length ∧ y.snd.snd.snd.2.2 = y_1.2 ∧ y.snd.snd.2.1 = prfL d ls i ∧ y.snd.snd.2.1.length = (prfL d ls i).length ∧ (prfL d ls i).length ≤ y_1.2 ∧ ∀ (a : List Int), a ∈ prfL d ls i → a.length = (32 : Nat)) ∧ (decide ((↑y.2.1 : Int) = (0 : Int)) = false → (0 : Int) ≤ (0 : Int) ∧ (0 : Int) < (↑y.2.1 : Int) ∧ (0 : Nat) < ls.length ∧ (0 : Nat) < ls.length ∧ ∃ (y_1 : Option Addr × Nat), y.snd.snd.snd.2.1 = y_1.1 ∧ y.snd.snd.2.1.length = (prfL d ls i).length ∧ y.snd.snd.snd.2.2 = y_1.2 ∧ (0 : Int) = askV d i (↑ls.length : Int) ∧ y.snd.snd.snd.2.1 = y_1.1 ∧ y.snd.snd.2.1.length = (prfL d ls i).length ∧ y.snd.snd.snd.2.2 = y_1.2 ∧ y.snd.snd.2.1 = prfL d ls i ∧ y.snd.snd.2.1.length = (prfL d ls i).length ∧ (prfL d ls i).length ≤ y_1.2 ∧ ∀ (a : List Int), a ∈ prfL d ls i → a.length = (32 : Nat))))) (by kernel_rfl) ?_⟩
  simp only [imin, imax, decide_eq_true_eq, decide_eq_false_iff_not, Prod.forall, Prod.exists, exists_eq_left', exists_eq_left, exists_and_left, exists_and_right, exists_eq_right, exists_eq, exists_eq', true_and, and_true, forall_const, exists_const, eq_self, Bool.not_eq_true, Bool.not_eq_eq_eq_not, Bool.not_true, Bool.not_false, Value.slice.injEq, Option.getD_some]
  intro hls
  refine ⟨fun h => ⟨none, 0, by rw [prfL, if_neg h]; exact ⟨⟨rfl, rfl, rfl⟩, rfl, rfl, rfl, rfl, rfl, Nat.le_refl _, fun a ha => by cases ha⟩⟩, fun h => ?_⟩
  obtain ⟨hd0, hd1, hi0, hi1, hi2, hn, hn2⟩ := ask_prf h
  refine ⟨hd0, hd1, fun _ _ _ _ => ⟨by rw [BY32]; omega, fun q hq => ⟨⟨ls, [], rfl, rfl, rfl, rfl, rfl, by omega, by omega, by omega, by simp [lvl], by simp [prfN], by simp⟩, fun t k c p cp hpa hc hca _ _ h1 h2 h3 h4 h5 h6 => ⟨fun h7 => ?_, fun h7 => ?_⟩⟩⟩⟩
  · have hs := sib_i hi0 hi2 h1 (by omega : t ≤ 16)
    rw [hs]
    have hp5 := prfN_succ ls i.toNat t.toNat
    generalize i.toNat / 2 ^ t.toNat ^^^ 1 = s at hp5 ⊢
    have hll : (lvl ls t.toNat).length = k := by rw [← h4, List.length_take]; omega
    have hpl : p.length = t.toNat := by rw [h5, prfN_length]
    refine ⟨h1, by omega, by omega, ⟨h1, fun h8 => ⟨by omega, h8, by omega, by omega, ?_⟩, fun h8 => ?_⟩, fun v hv _ _ _ _ _ h9 => ⟨by rw [BY32]; omega, fun q1 hq1 => ⟨⟨by omega, by omega, by omega, by rw [Int.toNat_zero, itN]⟩, fun hh j q' _ _ _ _ _ hq' hqa _ _ h10 h11 h12 h13 => ⟨fun h14 => ?_, fun h14 => ?_⟩⟩⟩⟩
    · rw [Int.toNat_natCast, getD_lt (by omega), getD_lt (by omega)]
      simp only [← h4, List.getElem_take]
    · rw [nl_get _ _ (by omega) (by omega), List.getD_eq_getElem?_getD, List.getElem?_eq_none (by omega)]; rfl
    · subst h11
      refine ⟨by omega, by omega, by omega, by omega, by omega, fun h15 => ⟨by omega, by omega, by omega, by omega, by omega, by omega, by omega, by omega, by omega, by omega, fun _ _ => ?_⟩, fun h15 => ⟨by omega, by omega, by omega, by omega, fun _ _ => ?_⟩⟩
      · repeat refine ⟨by first | omega | with_reducible assumption | with_reducible rfl, ?_⟩
        refine ⟨?_, by omega⟩
        rw [show (hh + 1).toNat = hh.toNat + 1 by omega, itN, stp, ← h13, if_pos (by omega), pr2, show (2 * hh + 1).toNat = 2 * hh.toNat + 1 by omega, show (2 * hh).toNat = 2 * hh.toNat by omega]
      · repeat refine ⟨by first | omega | with_reducible assumption | with_reducible rfl, ?_⟩
        refine ⟨?_, by omega⟩
        rw [show (hh + 1).toNat = hh.toNat + 1 by omega, itN, stp, ← h13, if_neg (by omega), pr2, show (2 * hh).toNat = 2 * hh.toNat by omega, nl_get _ _ (by omega) (by omega)]
    · refine ⟨by omega, by omega, by omega, by omega, q', p ++ [v], by simp, rfl, by simp, rfl, by simp, by omega, by omega, by omega, ?_, ?_, by simp; omega, by omega⟩
      · rw [h13, show (t + 1).toNat = t.toNat + 1 by omega, lvl, ← h4, take_stp (by omega) (by omega)]
      · rw [show (t + 1).toNat = t.toNat + 1 by omega, hp5, h5, h9]
  · have e : prfL d ls i = p := by rw [prfL, if_pos h, h5, show t.toNat = d.toNat by omega]
    rw [e]
    exact ⟨fun h8 => ⟨by omega, by omega, by omega, rfl, h.symm, rfl, rfl, rfl, h6, hpa⟩, fun h8 => ⟨by omega, by omega, by omega, by omega, rfl, h.symm, rfl, rfl, rfl, h6, hpa⟩⟩
noncomputable def con_mproof : Con Xp.P FMp := ⟨102, sg_mproof, pr_mproof, ps_mproof, vc_ok (La := la_mproof) (Ca := ca_mproof) 300 (fn := Go.Proofs.Try.f102) (by kernel_rfl) (c := cd_mproof) (by kernel_rfl) (by kernel_rfl) (by kernel_rfl) (by kernel_rfl) (fun ⟨d, ⟨⟨A, ⟨ls, c⟩⟩, ⟨i, ⟨⟩⟩⟩⟩ => vc_mproof d A ls c i)⟩

end Go.Pw
end
section
/-
  Walks by computing. No condition.
-/
set_option linter.all false
set_option maxRecDepth 100000
set_option maxHeartbeats 1000000
namespace Go.Pw
open Go Go.Px Go.RowKit
attribute [local irreducible] shaF

def rg (l : List Int) : Prop := ∀ j, 0 ≤ l.getD j 0 ∧ l.getD j 0 < 256
theorem rg_pr2 (x y : List Int) : rg (pr2 x y) := get_of_mem (p := fun x => 0 ≤ x ∧ x < 256) (by omega) (shaF_range _)
theorem rg_sha (x : List Int) : rg (shaF x) := get_of_mem (p := fun x => 0 ≤ x ∧ x < 256) (by omega) (shaF_range _)
theorem rg_z (n : Nat) : rg (List.replicate n 0) := get_of_mem (p := fun x => 0 ≤ x ∧ x < 256) (by omega) (fun x hx => by have := List.eq_of_mem_replicate hx; omega)
theorem rg_getD {l : List (List Int)} (h : ∀ a ∈ l, rg a) (i : Nat) (d : List Int) (hd : rg d) : rg (l.getD i d) := by
  by_cases hi : i < l.length
  · rw [getD_lt hi]; exact h _ (List.getElem_mem hi)
  · rw [List.getD_eq_getElem?_getD, List.getElem?_eq_none (by omega)]; exact hd
theorem rg_fldN {i : Nat} {ps : List (List Int)} {x : List Int} (hx : rg x) : ∀ k, rg (fldN i ps x k)
  | 0 => hx
  | k + 1 => by rw [fldN]; split <;> exact rg_pr2 _ _
theorem rg_fldH {i : Int} {ps : List (List Int)} {x : List Int} (hx : rg x) : rg (fldH i x ps) := by
  unfold fldH; split
  · exact rg_fldN hx _
  · exact rg_z _

noncomputable def cd_rfold : Code := (Go.Proofs.Try.f31.body).getD .skip
def sg_rfold : List Arg := [.one (.int .i64), .ag [.arr .u8 32], .one (.slr 0)]
def pr_rfold : SgT FMp sg_rfold → List Prop
  | (i, ((x, ()), ((A, (ps, c)), ()))) => (fun (i : Int) (x : List Int) (A : Option Addr) (ps : List (List Int)) (c : Nat) => ([rg x, ∀ a ∈ ps, rg a] : List Prop)) i x A ps c
def ps_rfold : SgT FMp sg_rfold → PS FMp
  | (i, ((x, ()), ((A, (ps, c)), ()))) => (fun (i : Int) (x : List Int) (A : Option Addr) (ps : List (List Int)) (c : Nat) => (⟨Unit, fun y => [], fun y => .tup [.ag (zz .u8 (fldH i x ps) 32), .one (.xv (.int .i64 (fldE i ps.length)))], fun y => [], fun y => [(fldH i x ps).length = 32]⟩ : PS FMp)) i x A ps c
def la_rfold : SgT FMp sg_rfold → List (Nat × (SS FMp → HA FMp))
  | (i, ((x, ()), ((A, (ps, c)), ()))) => (fun (i : Int) (x : List Int) (A : Option Addr) (ps : List (List Int)) (c : Nat) => ([(4, fun S => ⟨Int × Int × (List Int), fun y => [], fun n y => [(8, some (one (.int .i64 (y.1)))), (0, some (one (.int .i64 (y.2.1))))], fun n y => setId S.m 1 (zz .u8 y.2.2 32), fun y => [0 ≤ y.1, y.1 ≤ ps.length, y.2.2 = fldN i.toNat ps x y.1.toNat, y.2.1 = ((i.toNat / 2 ^ y.1.toNat : Nat) : Int)], fun y => (ps.length - y.1).toNat⟩)] : List (Nat × (SS FMp → HA FMp)))) i x A ps c
def ca_rfold : SgT FMp sg_rfold → List (Nat × (SS FMp → HA FMp))
  | (i, ((x, ()), ((A, (ps, c)), ()))) => (fun (i : Int) (x : List Int) (A : Option Addr) (ps : List (List Int)) (c : Nat) => ([] : List (Nat × (SS FMp → HA FMp)))) i x A ps c
theorem vc_rfold (i : Int) (x : List Int) (A : Option Addr) (ps : List (List Int)) (c : Nat) : Vc (vc (FM := FMp) Xp 49 [con_rpair] (la_rfold (i, ((x, ()), ((A, (ps, c)), ())))) (ca_rfold (i, ((x, ()), ((A, (ps, c)), ())))) [] [] [.cell 6 40, .tmp 7] sg_rfold pr_rfold ps_rfold cd_rfold 300 (i, ((x, ()), ((A, (ps, c)), ())))) := by
  refine ⟨Eq.mpr (β := x.length = (32 : Nat) → (∀ (a : List Int), a ∈ ps → a.length = (32 : Nat)) → rg x → (∀ (a : List Int), a ∈ ps → rg a) → ∀ (b b : Nat), ((decide ((16 : Int) < (↑ps.length : Int)) || decide (i < (0 : Int))) = false → (0 : Int) ≤ IntKind.u64.wrap (↑ps.length : Int)) ∧ ((decide ((16 : Int) < (↑ps.length : Int)) || decide (i < (0 : Int)) || decide (shlV IntKind.i64 (1 : Int) (IntKind.u64.wrap (↑ps.length : Int)) ≤ i)) = true → ∃ (y : Unit), List.replicate (32 : Nat) (0 : Int) = fldH i x ps ∧ (32 : Nat) = (32 : Nat) ∧ (2 : Int) = fldE i ps.length ∧ (fldH i x ps).length = (32 : Nat)) ∧ ((decide ((16 : Int) < (↑ps.length : Int)) || decide (i < (0 : Int)) || decide (shlV IntKind.i64 (1 : Int) (IntKind.u64.wrap (↑ps.length : Int)) ≤ i)) = false → (∃ (y : Int × Int × List Int), (0 : Int) = y.1 ∧ i = y.2.1 ∧ List.replicate (32 : Nat) (0 : Int) = List.replicate (32 : Nat) (0 : Int) ∧ (32 : Nat) = (32 : Nat) ∧ x = y.2.2 ∧ (32 : Nat) = (32 : Nat) ∧ (0 : Int) ≤ y.1 ∧ y.1 ≤ (↑ps.length : Int) ∧ y.2.2 = fldN i.toNat ps x y.1.toNat ∧ y.2.1 = (↑(i.toNat / (2 : Nat) ^ y.1.toNat) : Int)) ∧ ∀ (y : Int × Int × List Int), (32 : Nat) = (32 : Nat) → y.2.2.length = (32 : Nat) → (0 : Int) ≤ y.1 → y.1 ≤ (↑ps.length : Int) → y.2.2 = fldN i.toNat ps x y.1.toNat → y.2.1 = (↑(i.toNat / (2 : Nat) ^ y.1.toNat) : Int) → (decide (y.1 < (↑ps.length : Int)) = true → (0 : Int) ≤ y.2.1 ∧ (0 : Int) < (2 : Int) ∧ (decide (y.2.1 % (2 : Int) = (0 : Int)) = true → (0 : Int) ≤ y.1 ∧ y.1 < (↑ps.length : Int) ∧ y.1.toNat < ps.length ∧ y.1.toNat < ps.length ∧ (∀ (j : Nat), (0 : Int) ≤ y.2.2.getD j (0 : Int) ∧ y.2.2.getD j (0 : Int) < (256 : Int)) ∧ (∀ (j : Nat), (0 : Int) ≤ (ps.getD y.1.toNat (List.replicate (32 : Nat) (0 : Int))).getD j (0 : Int) ∧ (ps.getD y.1.toNat (List.replicate (32 : Nat) (0 : Int))).getD j (0 : Int) < (256 : Int)) ∧ ∀ (y_1 : Unit), (shaF ([(1 : Int)] ++ y.2.2 ++ ps.getD y.1.toNat (List.replicate (32 : Nat) (0 : Int)))).length = (32 : Nat) → (shaF ([(1 : Int)] ++ y.2.2 ++ ps.getD y.1.toNat (List.replicate (32 : Nat) (0 : Int)))).length = (32 : Nat) → (0 : Int) ≤ y.2.1 ∧ y.2.1 ≤ (9223372036854775807 : Int) ∧ (0 : Int) < (2 : Int) ∧ (-9223372036854775808 : Int) ≤ y.1 + (1 : Int) ∧ y.1 + (1 : Int) ≤ (9223372036854775807 : Int) ∧ ∃ (y_2 : Int × Int × List Int), y.1 + (1 : Int) = y_2.1 ∧ y.2.1 / (2 : Int) = y_2.2.1 ∧ List.replicate (32 : Nat) (0 : Int) = List.replicate (32 : Nat) (0 : Int) ∧ (32 : Nat) = (32 : Nat) ∧ shaF ([(1 : Int)] ++ y.2.2 ++ ps.getD y.1.toNat (List.replicate (32 : Nat) (0 : Int))) = y_2.2.2 ∧ (32 : Nat) = (32 : Nat) ∧ (0 : Int) ≤ y_2.1 ∧ y_2.1 ≤ (↑ps.length : Int) ∧ y_2.2.2 = fldN i.toNat ps x y_2.1.toNat ∧ y_2.2.1 = (↑(i.toNat / (2 : Nat) ^ y_2.1.toNat) : Int) ∧ ((↑ps.length : Int) - y_2.1).toNat < ((↑ps.length : Int) - y.1).toNat) ∧ (decide (y.2.1 % (2 : Int) = (0 : Int)) = false → (0 : Int) ≤ y.1 ∧ y.1 < (↑ps.length : Int) ∧ y.1.toNat < ps.length ∧ y.1.toNat < ps.length ∧ (∀ (j : Nat), (0 : Int) ≤ (ps.getD y.1.toNat (List.replicate (32 : Nat) (0 : Int))).getD j (0 : Int) ∧ (ps.getD y.1.toNat (List.replicate (32 : Nat) (0 : Int))).getD j (0 : Int) < (256 : Int)) ∧ (∀ (j : Nat), (0 : Int) ≤ y.2.2.getD j (0 : Int) ∧ y.2.2.getD j (0 : Int) < (256 : Int)) ∧ ∀ (y_1 : Unit), (shaF ([(1 : Int)] ++ ps.getD y.1.toNat (List.replicate (32 : Nat) (0 : Int)) ++ y.2.2)).length = (32 : Nat) → (shaF ([(1 : Int)] ++ ps.getD y.1.toNat (List.replicate (32 : Nat) (0 : Int)) ++ y.2.2)).length = (32 : Nat) → (0 : Int) ≤ y.2.1 ∧ y.2.1 ≤ (9223372036854775807 : Int) ∧ (0 : Int) < (2 : Int) ∧ (-9223372036854775808 : Int) ≤ y.1 + (1 : Int) ∧ y.1 + (1 : Int) ≤ (9223372036854775807 : Int) ∧ ∃ (y_2 : Int × Int × List Int), y.1 + (1 : Int) = y_2.1 ∧ y.2.1 / (2 : Int) = y_2.2.1 ∧ List.replicate (32 : Nat) (0 : Int) = List.replicate (32 : Nat) (0 : Int) ∧ (32 : Nat) = (32 : Nat) ∧ shaF ([(1 : Int)] ++ ps.getD y.1.toNat (List.replicate (32 : Nat) (0 : Int)) ++ y.2.2) = y_2.2.2 ∧ (32 : Nat) = (32 : Nat) ∧ (0 : Int) ≤ y_2.1 ∧ y_2.1 ≤ (↑ps.length : Int) ∧ y_2.2.2 = fldN i.toNat ps x y_2.1.toNat ∧ y_2.2.1 = (↑(i.toNat / (2 : Nat) ^ y_2.1.toNat) : Int) ∧ ((↑ps.length : Int) - y_2.1).toNat < ((↑ps.length : Int) - y.1).toNat)) ∧ (decide (y.1 < (↑ps.length : Int)) = false → ∃ (y_1 : Unit), y.2.2 = fldH i x ps ∧ (32 : Nat) = (32 : Nat) ∧ (0 : Int) = fldE i ps.length ∧ (fldH i x ps).length = (32 : Nat)))) (by kernel_rfl) ?_⟩
  simp only [imin, imax, decide_eq_true_eq, decide_eq_false_iff_not, Prod.forall, Prod.exists, exists_eq_left', exists_eq_left, exists_and_left, exists_and_right, exists_eq_right, exists_eq, exists_eq', true_and, and_true, forall_const, exists_const, eq_self, Bool.not_eq_true, Bool.not_eq_eq_eq_not, Bool.not_true, Bool.not_false, Value.slice.injEq, Option.getD_some]
  intro hx hps h1 h2
  have hlen := fldH_length (i := i) (ps := ps) hx
  have hw : ps.length ≤ 16 → shlV .i64 1 (IntKind.u64.wrap (ps.length : Int)) = 2 ^ ps.length := fun h => by rw [wu64 (by omega) (by omega), shl1 (by omega) (by omega), Int.toNat_natCast]
  have key : ((decide ((16 : Int) < (ps.length : Int)) || decide (i < 0) || decide (shlV .i64 1 (IntKind.u64.wrap (ps.length : Int)) ≤ i)) = true) ↔ ¬ fldOk i ps.length := by
    simp only [Bool.or_eq_true, decide_eq_true_eq]
    constructor
    · intro h ho
      have h16 := ho.1
      rw [hw h16] at h
      have := ho.2.2
      have := ho.2.1
      omega
    · intro hn
      by_cases a : ps.length ≤ 16
      · rw [hw a]
        by_cases b : i < 0
        · exact .inl (.inr b)
        · exact .inr (Int.not_lt.1 fun c => hn ⟨a, by omega, c⟩)
      · exact .inl (.inl (by omega))
  refine ⟨fun _ => wrap_nn _, fun h => ?_, fun h => ?_⟩
  · have hn := key.1 h
    exact ⟨by rw [fldH, if_neg hn], by rw [fldE, if_neg hn], hlen⟩
  · have ho : fldOk i ps.length := Decidable.byContradiction fun hn => by rw [key.2 hn] at h; cases h
    have h16 := pow16 ho.1
    obtain ⟨o1, o2, o3⟩ := ho
    refine ⟨⟨by omega, by omega, rfl, by rw [Int.toNat_zero, Nat.pow_zero, Nat.div_one]; omega⟩, fun k j v hv h3 h4 h5 h6 => ⟨fun h7 => ?_, fun h7 => ?_⟩⟩
    · have hd : i.toNat / 2 ^ (k + 1).toNat = i.toNat / 2 ^ k.toNat / 2 := by rw [show (k + 1).toNat = k.toNat + 1 by omega, Nat.pow_succ, Nat.div_div_eq_div_mul]
      have hrv : rg v := by rw [h5]; exact rg_fldN h1 _
      have hrp : rg (ps.getD k.toNat (List.replicate 32 0)) := rg_getD h2 _ _ (rg_z 32)
      have e0 : fldN i.toNat ps x (k + 1).toNat = if (i.toNat / 2 ^ k.toNat) % 2 = 0 then pr2 v (ps.getD k.toNat (List.replicate 32 0)) else pr2 (ps.getD k.toNat (List.replicate 32 0)) v := by rw [show (k + 1).toNat = k.toNat + 1 by omega, fldN, ← h5]
      have hm := Nat.div_le_self i.toNat (2 ^ k.toNat)
      rw [hd, e0]
      clear h5 hd
      generalize i.toNat / 2 ^ k.toNat = m at h6 e0 hm ⊢
      subst h6
      refine ⟨by omega, by omega, fun h8 => ⟨h3, by omega, by omega, by omega, hrv, hrp, fun _ _ => ⟨by omega, by omega, by omega, by omega, by omega, by omega, by omega, by rw [if_pos (by omega), pr2], by omega, by omega⟩⟩, fun h8 => ⟨h3, by omega, by omega, by omega, hrp, hrv, fun _ _ => ⟨by omega, by omega, by omega, by omega, by omega, by omega, by omega, by rw [if_neg (by omega), pr2], by omega, by omega⟩⟩⟩
    · have ho : fldOk i ps.length := ⟨o1, o2, o3⟩
      exact ⟨by rw [fldH, if_pos ho, h5, show k.toNat = ps.length by omega], by rw [fldE, if_pos ho], hlen⟩
noncomputable def con_rfold : Con Xp.P FMp := ⟨31, sg_rfold, pr_rfold, ps_rfold, vc_ok (La := la_rfold) (Ca := ca_rfold) 300 (fn := Go.Proofs.Try.f31) (by kernel_rfl) (c := cd_rfold) (by kernel_rfl) (by kernel_rfl) (by kernel_rfl) (by kernel_rfl) (fun ⟨i, ⟨⟨x, ⟨⟩⟩, ⟨⟨A, ⟨ps, c⟩⟩, ⟨⟩⟩⟩⟩ => vc_rfold i x A ps c)⟩

end Go.Pw
end
section
/-
  Walks by computing. No condition.
-/
set_option linter.all false
set_option maxRecDepth 100000
set_option maxHeartbeats 1000000
namespace Go.Pw
open Go Go.Px Go.RowKit

def sumN (p : List Int) : Nat → Int
  | 0 => 0
  | n + 1 => sumN p n + p.getD n 0
def totOk (p : List Int) : Prop := sumN p 16 ≤ 4611686018427387904
instance (p : List Int) : Decidable (totOk p) := by unfold totOk; infer_instance


   

end Go.Pw
end
section
/-
  Walks by computing. No condition.
-/
set_option linter.all false
set_option maxRecDepth 100000
set_option maxHeartbeats 1000000
namespace Go.Pw
open Go Go.Px Go.RowKit



end Go.Pw
end
section
/-
  Walks by computing. No condition.
-/
set_option linter.all false
set_option maxRecDepth 100000
set_option maxHeartbeats 1000000
namespace Go.Pw
open Go Go.Px Go.RowKit

noncomputable def cd_rfrom : Code := (Go.Proofs.Try.f73.body).getD .skip
def sg_rfrom : List Arg := [.ag [.arr .u64 4]]
def pr_rfrom : SgT FMp sg_rfrom → List Prop
  | ((w, ()), ()) => (fun (w : List Int) => ([] : List Prop)) w
def ps_rfrom : SgT FMp sg_rfrom → PS FMp
  | ((w, ()), ()) => (fun (w : List Int) => (⟨Unit, fun y => [], fun y => .v (.ag (zz .u8 (frF 32 32 w) 32)), fun y => [], fun y => [(frF 32 32 w).length = 32]⟩ : PS FMp)) w
def la_rfrom : SgT FMp sg_rfrom → List (Nat × (SS FMp → HA FMp))
  | ((w, ()), ()) => (fun (w : List Int) => ([(3, fun S => ⟨Int × (List Int), fun y => [], fun n y => [(4, some (one (.int .i64 (y.1))))], fun n y => setId S.m 2 (zz .u8 y.2 32), fun y => [0 ≤ y.1, y.1 ≤ 32, y.2 = itN (frS w) y.1.toNat (List.replicate 32 0)], fun y => (32 - y.1).toNat⟩)] : List (Nat × (SS FMp → HA FMp)))) w
def ca_rfrom : SgT FMp sg_rfrom → List (Nat × (SS FMp → HA FMp))
  | ((w, ()), ()) => (fun (w : List Int) => ([] : List (Nat × (SS FMp → HA FMp)))) w
theorem vc_rfrom (w : List Int) : Vc (vc (FM := FMp) Xp 23 [] (la_rfrom ((w, ()), ())) (ca_rfrom ((w, ()), ())) [] [] [.cell 2 40] sg_rfrom pr_rfrom ps_rfrom cd_rfrom 300 ((w, ()), ())) := by
  refine ⟨Eq.mpr (β := w.length = (4 : Nat) → ∀ (b b b : Nat), (∃ (y : Int × List Int), (0 : Int) = y.1 ∧ List.replicate (32 : Nat) (0 : Int) = y.2 ∧ (32 : Nat) = (32 : Nat) ∧ List.replicate (32 : Nat) (0 : Int) = List.replicate (32 : Nat) (0 : Int) ∧ (32 : Nat) = (32 : Nat) ∧ w = w ∧ (4 : Nat) = (4 : Nat) ∧ (0 : Int) ≤ y.1 ∧ y.1 ≤ (32 : Int) ∧ y.2 = itN (frS w) y.1.toNat (List.replicate (32 : Nat) (0 : Int))) ∧ ∀ (y : Int × List Int), y.2.length = (32 : Nat) → (32 : Nat) = (32 : Nat) → w.length = (4 : Nat) → (0 : Int) ≤ y.1 → y.1 ≤ (32 : Int) → y.2 = itN (frS w) y.1.toNat (List.replicate (32 : Nat) (0 : Int)) → (decide (y.1 < (32 : Int)) = true → (0 : Int) ≤ y.1 ∧ y.1 ≤ (9223372036854775807 : Int) ∧ (0 : Int) < (8 : Int) ∧ (0 : Int) ≤ y.1 / (8 : Int) ∧ y.1 / (8 : Int) < (4 : Int) ∧ (y.1 / (8 : Int)).toNat < (4 : Nat) ∧ (0 : Int) ≤ y.1 ∧ (0 : Int) < (8 : Int) ∧ (-9223372036854775808 : Int) ≤ (8 : Int) * (y.1 % (8 : Int)) ∧ (8 : Int) * (y.1 % (8 : Int)) ≤ (9223372036854775807 : Int) ∧ (-9223372036854775808 : Int) ≤ (56 : Int) - (8 : Int) * (y.1 % (8 : Int)) ∧ (56 : Int) - (8 : Int) * (y.1 % (8 : Int)) ≤ (9223372036854775807 : Int) ∧ (0 : Int) ≤ IntKind.u64.wrap ((56 : Int) - (8 : Int) * (y.1 % (8 : Int))) ∧ (0 : Int) ≤ y.1 ∧ y.1 < (32 : Int) ∧ y.1.toNat < (32 : Nat) ∧ ∀ (q : List Int), q = y.2.set y.1.toNat (IntKind.u8.wrap (shrV IntKind.u64 (w.getD (y.1 / (8 : Int)).toNat (0 : Int)) (IntKind.u64.wrap ((56 : Int) - (8 : Int) * (y.1 % (8 : Int)))))) → (-9223372036854775808 : Int) ≤ y.1 + (1 : Int) ∧ y.1 + (1 : Int) ≤ (9223372036854775807 : Int) ∧ ∃ (y_1 : Int × List Int), y.1 + (1 : Int) = y_1.1 ∧ q = y_1.2 ∧ (32 : Nat) = (32 : Nat) ∧ List.replicate (32 : Nat) (0 : Int) = List.replicate (32 : Nat) (0 : Int) ∧ (32 : Nat) = (32 : Nat) ∧ w = w ∧ (4 : Nat) = (4 : Nat) ∧ (0 : Int) ≤ y_1.1 ∧ y_1.1 ≤ (32 : Int) ∧ y_1.2 = itN (frS w) y_1.1.toNat (List.replicate (32 : Nat) (0 : Int)) ∧ ((32 : Int) - y_1.1).toNat < ((32 : Int) - y.1).toNat) ∧ (decide (y.1 < (32 : Int)) = false → ∃ (y_1 : Unit), y.2 = frF (32 : Nat) (32 : Nat) w ∧ (32 : Nat) = (32 : Nat) ∧ (frF (32 : Nat) (32 : Nat) w).length = (32 : Nat))) (by kernel_rfl) ?_⟩
  simp only [imin, imax, decide_eq_true_eq, decide_eq_false_iff_not, Prod.forall, Prod.exists, exists_eq_left', exists_eq_left, exists_and_left, exists_and_right, exists_eq_right, exists_eq, exists_eq', true_and, and_true, forall_const, exists_const, eq_self, Bool.not_eq_true, Bool.not_eq_eq_eq_not, Bool.not_true, Bool.not_false, Value.slice.injEq, Option.getD_some, imp_self, implies_true, Option.some.injEq, Addr.mk.injEq, true_or, or_true, List.length_cons, List.length_nil, Nat.zero_add, Nat.reduceAdd]
  intro hw
  refine ⟨⟨by omega, by omega, rfl⟩, fun k q hq _ h0 h1 he => ⟨fun h2 => ⟨h0, by omega, by omega, by omega, by omega, by omega, h0, by omega, by omega, by omega, by omega, by omega, ?_, h0, h2, by omega, fun q' hq' => ⟨by omega, by omega, by omega, by omega, ?_, by omega⟩⟩, fun h2 => ⟨by rw [he, show k.toNat = 32 by omega]; rfl, frF_length _ _ _⟩⟩⟩
  · rw [wrap64]; omega
  · rw [hq', show (k + 1).toNat = k.toNat + 1 by omega, itN, ← he, frS, show (k / 8).toNat = k.toNat / 8 by omega, Int.toNat_of_nonneg h0, wrap64, Int.emod_eq_of_lt (by omega) (by omega)]
noncomputable def con_rfrom : Con Xp.P FMp := ⟨73, sg_rfrom, pr_rfrom, ps_rfrom, vc_ok (La := la_rfrom) (Ca := ca_rfrom) 300 (fn := Go.Proofs.Try.f73) (by kernel_rfl) (c := cd_rfrom) (by kernel_rfl) (by kernel_rfl) (by kernel_rfl) (by kernel_rfl) (fun ⟨⟨w, ⟨⟩⟩, ⟨⟩⟩ => vc_rfrom w)⟩

end Go.Pw
end
