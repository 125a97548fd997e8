/-
  What numbers and lists come to: words, bytes, SHA-256. No condition.
-/
import Derived.Test.YtogpbbgcdeiplaaZF
set_option linter.all false
set_option maxRecDepth 100000
namespace Go.Pw
open Go Go.Px Go.RowKit

/-- So many rounds. -/
def itN {α : Type} (f : Nat → α → α) : Nat → α → α
  | 0, q => q
  | n + 1, q => f n (itN f n q)
def wdS (h : List Int) (j : Nat) (q : List Int) : List Int := q.set (j / 8) (bor .u64 (shlV .u64 (q.getD (j / 8) 0) 8) (h.getD j 0))
def wdF (m n : Nat) (h : List Int) : List Int := itN (wdS h) n (List.replicate m 0)
theorem wdF_length (m n : Nat) (h : List Int) : (wdF m n h).length = m := by
  unfold wdF
  induction n with
  | zero => simp [itN]
  | succ n ih => simp only [itN, wdS, List.length_set]; exact ih
def frS (w : List Int) (j : Nat) (q : List Int) : List Int := q.set j (IntKind.u8.wrap (shrV .u64 (w.getD (j / 8) 0) (56 - 8 * ((j : Int) % 8))))
def frF (m n : Nat) (w : List Int) : List Int := itN (frS w) n (List.replicate m 0)
theorem frF_length (m n : Nat) (w : List Int) : (frF m n w).length = m := by
  unfold frF
  induction n with
  | zero => simp [itN]
  | succ n ih => simp only [itN, frS, List.length_set]; exact ih
def mayM (k f t a n : Int) (x y : List Int) : Bool :=
  decide ((k = 1 ∧ f = 0 ∧ t < 32 ∧ 0 < a ∧ n = 0 ∧ x = List.replicate 32 0 ∧ y = List.replicate 32 0) ∨ (k = 2 ∧ f < 32 ∧ t < 32) ∨ (k = 3 ∧ f < 32 ∧ 0 < a))

def e8S (x : Int) (j : Nat) (q : List Int) : List Int := q ++ [IntKind.u8.wrap (shrV .u64 x (8 * (7 - (j : Int))))]
def ei8 (x : Int) : List Int := itN (e8S x) 8 []
theorem ei8_length (x : Int) : (ei8 x).length = 8 := by simp [ei8, itN, e8S]
def catS (w : List Int) (j : Nat) (q : List Int) : List Int := q ++ ei8 (w.getD j 0)
def wrR (w : List Int) (n : Nat) : List Int := itN (catS w) n []
theorem wrR_length (w : List Int) (n : Nat) : (wrR w n).length = 8 * n := by
  unfold wrR
  induction n with
  | zero => simp [itN]
  | succ n ih => simp only [itN, catS, List.length_append, ei8_length, ih]; omega
def wrM (k f t a n : Int) (x y : List Int) : List Int := if mayM k f t a n x y = true then wrR [k, f, t, a, n] 5 ++ x ++ y else []
def wrE (k f t a n : Int) (x y : List Int) : Int := if mayM k f t a n x y = true then 0 else 2
theorem wrM_len (k f t a n : Int) {x y : List Int} (hx : x.length = 32) (hy : y.length = 32) : (wrM k f t a n x y).length = if mayM k f t a n x y = true then 104 else 0 := by
  unfold wrM; split <;> simp [wrR_length, hx, hy]
theorem flat_get {α : Type} (n : Nat) : ∀ (css : List (List α)), (∀ cs ∈ css, cs.length = n) → css.flatten.length = css.length * n ∧ ∀ i j, i < css.length → j < n → css.flatten[i * n + j]? = (css[i]?.getD [])[j]?
  | [], _ => by simp
  | c :: css, h => by
    obtain ⟨i1, i2⟩ := flat_get n css (fun x hx => h x (by simp [hx]))
    have hcl := h c (by simp)
    refine ⟨by simp only [List.flatten_cons, List.length_append, hcl, i1, List.length_cons, Nat.succ_mul]; omega, fun i j hi hj => ?_⟩
    cases i with
    | zero => rw [List.flatten_cons, Nat.zero_mul, Nat.zero_add, List.getElem?_append_left (by omega)]; simp
    | succ i =>
      rw [List.flatten_cons, List.getElem?_append_right (by rw [Nat.succ_mul]; omega), show (i + 1) * n + j - c.length = i * n + j by rw [Nat.succ_mul]; omega, i2 i j (by simpa using hi) hj]
      simp
theorem wrap8 (x : Int) : IntKind.u8.wrap x = x % 256 := by
  simp [IntKind.wrap, IntKind.bits, IntKind.signed]
theorem wrap64 (x : Int) : IntKind.u64.wrap x = x % 18446744073709551616 := by
  simp [IntKind.wrap, IntKind.bits, IntKind.signed]
theorem wrap32 (x : Int) : IntKind.u32.wrap x = x % 4294967296 := by
  simp [IntKind.wrap, IntKind.bits, IntKind.signed]
/-- A byte of a word, the j-th from above. -/
def byt (x : Int) (j : Nat) : Int := IntKind.u8.wrap (shrV .u64 x (56 - 8 * (j : Int)))
theorem ei8_eq (x : Int) : ei8 x = [byt x 0, byt x 1, byt x 2, byt x 3, byt x 4, byt x 5, byt x 6, byt x 7] := by
  simp [ei8, itN, e8S, byt]
theorem frF_map (w : List Int) (n : Nat) : ∀ k, k ≤ n → itN (frS w) k (List.replicate n 0) = (List.range k).map (fun j => byt (w.getD (j / 8) 0) (j % 8)) ++ List.replicate (n - k) 0
  | 0, _ => by simp [itN]
  | k + 1, h => by
    rw [itN, frF_map w n k (by omega), frS, List.range_succ, List.map_append]
    have hr : List.replicate (n - k) (0 : Int) = 0 :: List.replicate (n - (k + 1)) 0 := by
      rw [show n - k = (n - (k + 1)) + 1 by omega, List.replicate_succ]
    rw [hr, List.set_append_right _ _ (by simp)]
    simp [byt]
theorem frF_bytes {w : List Int} {m : Nat} (h : w.length = m) : frF (8 * m) (8 * m) w = w.flatMap ei8 := by
  unfold frF
  rw [frF_map w _ _ (Nat.le_refl _)]
  simp only [Nat.sub_self, List.replicate_zero, List.append_nil]
  have hc : ∀ cs ∈ w.map ei8, cs.length = 8 := by
    intro cs hcs
    obtain ⟨x, _, rfl⟩ := List.mem_map.1 hcs
    exact ei8_length x
  obtain ⟨f1, f2⟩ := flat_get 8 (w.map ei8) hc
  rw [List.flatMap_def]
  apply List.ext_getElem?
  intro j
  by_cases hj : j < 8 * m
  · have hq : j / 8 < w.length := by omega
    have h2 := f2 (j / 8) (j % 8) (by simpa using hq) (by omega)
    rw [show j / 8 * 8 + j % 8 = j by omega] at h2
    rw [h2]
    simp only [List.getElem?_map, List.getElem?_range hj, Option.map_some, List.getElem?_eq_getElem hq, Option.getD_some, List.getD_eq_getElem?_getD, ei8_eq]
    have : j % 8 = 0 ∨ j % 8 = 1 ∨ j % 8 = 2 ∨ j % 8 = 3 ∨ j % 8 = 4 ∨ j % 8 = 5 ∨ j % 8 = 6 ∨ j % 8 = 7 := by omega
    rcases this with h | h | h | h | h | h | h | h <;> simp [h]
  · rw [List.getElem?_eq_none (by simp; omega), List.getElem?_eq_none (by rw [f1]; simp; omega)]
theorem bor_low {a b : Int} (h0 : 0 ≤ a) (h1 : a < 18446744073709551616) (h2 : a % 256 = 0) (h3 : 0 ≤ b) (h4 : b < 256) : bor .u64 a b = a + b := by
  have hu : bor .u64 a b = IntKind.u64.wrap ((BitVec.ofInt 64 a ||| BitVec.ofInt 64 b).toNat : Int) := rfl
  rw [hu, wrap64, BitVec.toNat_or, BitVec.toNat_ofInt, BitVec.toNat_ofInt]
  have e1 : (a % ((2 ^ 64 : Nat) : Int)).toNat = a.toNat := by
    congr 1; omega
  have e2 : (b % ((2 ^ 64 : Nat) : Int)).toNat = b.toNat := by
    congr 1; omega
  rw [e1, e2]
  have e3 : a.toNat = 2 ^ 8 * (a.toNat / 256) := by omega
  have e4 := Nat.two_pow_add_eq_or_of_lt (i := 8) (b := b.toNat) (by omega) (a.toNat / 256)
  rw [e3, ← e4]
  omega
def bstep (a c : Int) : Int := bor .u64 (shlV .u64 a 8) c
def be (l : List Int) : Int := l.foldl bstep 0
theorem bstep_eq {a c : Int} (h0 : 0 ≤ a) (h3 : 0 ≤ c) (h4 : c < 256) : bstep a c = a * 256 % 18446744073709551616 + c := by
  unfold bstep
  have : shlV .u64 a 8 = a * 256 % 18446744073709551616 := by
    simp [shlV, wrap64, IntKind.bits]
  rw [this, bor_low (by omega) (by omega) (by omega) h3 h4]
theorem wd_get {h : List Int} {m : Nat} : ∀ (n p : Nat), n ≤ 8 * m → n ≤ h.length → p < m → (itN (wdS h) n (List.replicate m 0)).getD p 0 = be (((h.take n).drop (8 * p)).take 8) ∧ (itN (wdS h) n (List.replicate m 0)).length = m
  | 0, p, _, _, hp => by simp [itN, be, List.getD_eq_getElem?_getD, hp]
  | n + 1, p, h1, h2, hp => by
    obtain ⟨i1, i2⟩ := wd_get (h := h) (m := m) n p (by omega) (by omega) hp
    obtain ⟨j1, -⟩ := wd_get (h := h) (m := m) n (n / 8) (by omega) (by omega) (by omega)
    refine ⟨?_, by simp [itN, wdS, i2]⟩
    rw [itN, wdS, List.getD_eq_getElem?_getD, List.getElem?_set]
    have ht : h.take (n + 1) = h.take n ++ [h.getD n 0] := by
      rw [List.take_succ, List.getD_eq_getElem?_getD, List.getElem?_eq_getElem (by omega)]; simp
    have hl : (h.take n).length = n := by simp; omega
    by_cases e : n / 8 = p
    · subst e
      rw [if_pos rfl, if_pos (by omega), Option.getD_some, j1, ht]
      rw [List.drop_append_of_le_length (by omega)]
      have hd : ((h.take n).drop (8 * (n / 8))).length < 8 := by rw [List.length_drop, hl]; omega
      generalize (h.take n).drop (8 * (n / 8)) = X at *
      rw [List.take_of_length_le (l := X) (by omega), List.take_of_length_le (l := X ++ [h.getD n 0]) (by simp only [List.length_append, List.length_cons, List.length_nil]; omega)]
      unfold be
      rw [List.foldl_append]
      rfl
    · rw [if_neg e, ← List.getD_eq_getElem?_getD, i1, ht]
      by_cases e2 : 8 * p ≤ n
      · rw [List.drop_append_of_le_length (by omega), List.take_append_of_le_length (by rw [List.length_drop, hl]; omega)]
      · rw [List.drop_eq_nil_of_le (by omega), List.drop_eq_nil_of_le (by simp only [List.length_append, hl, List.length_cons, List.length_nil]; omega)]
theorem list8 {l : List Int} (h : l.length = 8) : ∃ a b c d e f g i, l = [a, b, c, d, e, f, g, i] := by
  match l, h with
  | [a, b, c, d, e, f, g, i], _ => exact ⟨a, b, c, d, e, f, g, i, rfl⟩
theorem byt_eq {x : Int} {j : Nat} (hj : j < 8) : byt x j = x / (2 ^ (56 - 8 * j) : Nat) % 256 := by
  unfold byt shrV
  rw [wrap8]
  have e1 : min (56 - 8 * (j : Int)).toNat (IntKind.bits .u64) = 56 - 8 * j := by simp [IntKind.bits]; omega
  rw [e1, Int.fdiv_eq_ediv_of_nonneg _ (Int.pow_nonneg (by omega))]
  simp
theorem be_val {a b c d e f g i : Int} (ha : 0 ≤ a ∧ a < 256) (hb : 0 ≤ b ∧ b < 256) (hc : 0 ≤ c ∧ c < 256) (hd : 0 ≤ d ∧ d < 256) (he : 0 ≤ e ∧ e < 256) (hf : 0 ≤ f ∧ f < 256) (hg : 0 ≤ g ∧ g < 256) (hi : 0 ≤ i ∧ i < 256) :
    be [a, b, c, d, e, f, g, i] = ((((((a * 256 + b) * 256 + c) * 256 + d) * 256 + e) * 256 + f) * 256 + g) * 256 + i := by
  simp only [be, List.foldl_cons, List.foldl_nil]
  rw [bstep_eq (a := 0) (by omega) ha.1 ha.2]
  rw [bstep_eq (c := b) (by omega) hb.1 hb.2]
  rw [bstep_eq (c := c) (by omega) hc.1 hc.2]
  rw [bstep_eq (c := d) (by omega) hd.1 hd.2]
  rw [bstep_eq (c := e) (by omega) he.1 he.2]
  rw [bstep_eq (c := f) (by omega) hf.1 hf.2]
  rw [bstep_eq (c := g) (by omega) hg.1 hg.2]
  rw [bstep_eq (c := i) (by omega) hi.1 hi.2]
  omega
theorem ei8_be {l : List Int} (h : l.length = 8) (hl : ∀ x ∈ l, 0 ≤ x ∧ x < 256) : ei8 (be l) = l := by
  obtain ⟨a, b, c, d, e, f, g, i, rfl⟩ := list8 h
  simp only [List.mem_cons, List.mem_nil_iff, or_false, forall_eq_or_imp, forall_eq] at hl
  obtain ⟨ha, hb, hc, hd, he, hf, hg, hi⟩ := hl
  rw [ei8_eq, be_val ha hb hc hd he hf hg hi]
  rw [byt_eq (by decide), byt_eq (by decide), byt_eq (by decide), byt_eq (by decide), byt_eq (by decide), byt_eq (by decide), byt_eq (by decide), byt_eq (by decide)]
  simp only [List.cons.injEq, and_true]
  simp only [Nat.reduceMul, Nat.reduceSub, Nat.reducePow, Int.cast_ofNat_Int]
  refine ⟨?_, ?_, ?_, ?_, ?_, ?_, ?_, ?_⟩ <;> omega
theorem wdF_get {h : List Int} {m p : Nat} (hl : h.length = 8 * m) (hp : p < m) : (wdF m (8 * m) h).getD p 0 = be ((h.drop (8 * p)).take 8) := by
  have := (wd_get (h := h) (m := m) (8 * m) p (Nat.le_refl _) (by omega) hp).1
  unfold wdF
  rw [this, List.take_of_length_le (l := h) (by omega)]
theorem words_back {h : List Int} {m : Nat} (hl : h.length = 8 * m) (hb : ∀ x ∈ h, 0 ≤ x ∧ x < 256) : (wdF m (8 * m) h).flatMap ei8 = h := by
  have hw := wdF_length m (8 * m) h
  have hc : ∀ cs ∈ (wdF m (8 * m) h).map ei8, cs.length = 8 := by
    intro cs hcs
    obtain ⟨x, _, rfl⟩ := List.mem_map.1 hcs
    exact ei8_length x
  obtain ⟨f1, f2⟩ := flat_get 8 _ hc
  rw [List.flatMap_def]
  apply List.ext_getElem?
  intro j
  by_cases hj : j < 8 * m
  · have hq : j / 8 < m := by omega
    have h2 := f2 (j / 8) (j % 8) (by simp [hw, hq]) (by omega)
    rw [show j / 8 * 8 + j % 8 = j by omega] at h2
    rw [h2]
    have g := wdF_get hl hq
    simp only [List.getD_eq_getElem?_getD] at g
    simp only [List.getElem?_map]
    have hq' : j / 8 < (wdF m (8 * m) h).length := by omega
    rw [List.getElem?_eq_getElem hq'] at g ⊢
    simp only [Option.getD_some] at g
    simp only [Option.map_some, Option.getD_some, g]
    rw [ei8_be (by simp only [List.length_take, List.length_drop]; omega) (fun x hx => hb x (List.mem_of_mem_drop (List.mem_of_mem_take hx)))]
    rw [List.getElem?_take, if_pos (by omega), List.getElem?_drop]
    congr 1; omega
  · rw [List.getElem?_eq_none (by rw [f1]; simp [hw]; omega), List.getElem?_eq_none (by omega)]
theorem mem_of_get {l : List Int} {p : Int → Prop} (h : ∀ j, p (l.getD j 0)) : ∀ x ∈ l, p x := by
  intro x hx
  obtain ⟨i, hi, rfl⟩ := List.mem_iff_getElem.1 hx
  have := h i
  simpa [List.getD_eq_getElem?_getD, hi] using this
theorem get_of_mem {l : List Int} {p : Int → Prop} (h0 : p 0) (h : ∀ x ∈ l, p x) : ∀ j, p (l.getD j 0) := by
  intro j
  rw [List.getD_eq_getElem?_getD]
  cases hj : l[j]? with
  | none => exact h0
  | some x => exact h x (List.mem_of_getElem? hj)

theorem byt_range (x : Int) (j : Nat) : 0 ≤ byt x j ∧ byt x j < 256 := by
  unfold byt; rw [wrap8]; omega
theorem frF_range {n : Nat} (w : List Int) : ∀ x ∈ frF n n w, 0 ≤ x ∧ x < 256 := by
  intro x hx
  unfold frF at hx
  rw [frF_map w n n (Nat.le_refl _)] at hx
  simp only [Nat.sub_self, List.replicate_zero, List.append_nil, List.mem_map] at hx
  obtain ⟨j, -, rfl⟩ := hx
  exact byt_range _ _
theorem ei8_range (x : Int) : ∀ y ∈ ei8 x, 0 ≤ y ∧ y < 256 := by
  intro y hy
  rw [ei8_eq] at hy
  simp only [List.mem_cons, List.mem_nil_iff, or_false] at hy
  rcases hy with rfl | rfl | rfl | rfl | rfl | rfl | rfl | rfl <;> exact byt_range _ _
theorem wrR5 (k f t a n : Int) : wrR [k, f, t, a, n] 5 = [k, f, t, a, n].flatMap ei8 := by
  simp [wrR, itN, catS]
theorem wr_bytes {k f t a n : Int} {x y : List Int} (hx : x.length = 32) (hy : y.length = 32) (hxb : ∀ j, 0 ≤ x.getD j 0 ∧ x.getD j 0 < 256) (hyb : ∀ j, 0 ≤ y.getD j 0 ∧ y.getD j 0 < 256) :
    frF 104 104 ([k, f, t, a, n] ++ wdF 4 32 x ++ wdF 4 32 y) = wrR [k, f, t, a, n] 5 ++ x ++ y := by
  have h := frF_bytes (w := [k, f, t, a, n] ++ wdF 4 32 x ++ wdF 4 32 y) (m := 13) (by simp [wdF_length])
  rw [show 8 * 13 = 104 from rfl] at h
  rw [h, List.flatMap_append, List.flatMap_append, wrR5]
  have e1 := words_back (h := x) (m := 4) hx (mem_of_get (p := fun x => 0 ≤ x ∧ x < 256) hxb)
  have e2 := words_back (h := y) (m := 4) hy (mem_of_get (p := fun x => 0 ≤ x ∧ x < 256) hyb)
  rw [show 8 * 4 = 32 from rfl] at e1 e2
  rw [e1, e2]
theorem wrM_range {k f t a n : Int} {x y : List Int} (hxb : ∀ j, 0 ≤ x.getD j 0 ∧ x.getD j 0 < 256) (hyb : ∀ j, 0 ≤ y.getD j 0 ∧ y.getD j 0 < 256) : ∀ z ∈ wrM k f t a n x y, 0 ≤ z ∧ z < 256 := by
  intro z hz
  unfold wrM at hz
  split at hz
  · rw [wrR5] at hz
    simp only [List.mem_append, List.mem_flatMap] at hz
    rcases hz with (⟨v, -, h⟩ | h) | h
    · exact ei8_range v z h
    · exact mem_of_get (p := fun x => 0 ≤ x ∧ x < 256) hxb z h
    · exact mem_of_get (p := fun x => 0 ≤ x ∧ x < 256) hyb z h
  · simp at hz
structure Ms where
  k : Int
  f : Int
  t : Int
  a : Int
  n : Int
  x : List Int
  y : List Int


def K256 : List Int := [1116352408, 1899447441, 3049323471, 3921009573, 961987163, 1508970993, 2453635748, 2870763221, 3624381080, 310598401, 607225278, 1426881987, 1925078388, 2162078206, 2614888103, 3248222580, 3835390401, 4022224774, 264347078, 604807628, 770255983, 1249150122, 1555081692, 1996064986, 2554220882, 2821834349, 2952996808, 3210313671, 3336571891, 3584528711, 113926993, 338241895, 666307205, 773529912, 1294757372, 1396182291, 1695183700, 1986661051, 2177026350, 2456956037, 2730485921, 2820302411, 3259730800, 3345764771, 3516065817, 3600352804, 4094571909, 275423344, 430227734, 506948616, 659060556, 883997877, 958139571, 1322822218, 1537002063, 1747873779, 1955562222, 2024104815, 2227730452, 2361852424, 2428436474, 2756734187, 3204031479, 3329325298]
def H256 : List Int := [1779033703, 3144134277, 1013904242, 2773480762, 1359893119, 2600822924, 528734635, 1541459225]
theorem bnd_nn (a b : Int) : 0 ≤ bnd .u64 a b := by
  show 0 ≤ IntKind.u64.wrap _
  rw [wrap64]; omega
theorem wrap_nn (a : Int) : 0 ≤ IntKind.u64.wrap a := by rw [wrap64]; omega
def rotl (x k : Int) : Int := bor .u32 (shlV .u32 x (bnd .u64 (IntKind.u64.wrap k) 31)) (shrV .u32 x (IntKind.u64.wrap (32 - bnd .u64 (IntKind.u64.wrap k) 31)))
def rotr (x n : Int) : Int := bor .u32 (shrV .u32 x n) (shlV .u32 x (IntKind.u64.wrap (32 - n)))
def tuS (x : Int) (l : List Int) (i : Nat) (y : Int) : Int := bxr .u32 y (rotl x (0 - l.getD i 0))
def turnS (x : Int) (l : List Int) : Int := itN (tuS x l) l.length 0
def wd4S (b : List Int) (j : Nat) (q : List Int) : List Int := q.set (j / 4) (bor .u32 (shlV .u32 (q.getD (j / 4) 0) 8) (IntKind.u32.wrap (b.getD j 0)))
def spI (b : List Int) : List Int := itN (wd4S b) 64 (List.replicate 64 0)
def spV (n : Nat) (q : List Int) : Int :=
  IntKind.u32.wrap (IntKind.u32.wrap (IntKind.u32.wrap (bxr .u32 (turnS (q.getD (n - 2) 0) [17, 19]) (shrV .u32 (q.getD (n - 2) 0) 10) + q.getD (n - 7) 0) + bxr .u32 (turnS (q.getD (n - 15) 0) [7, 18]) (shrV .u32 (q.getD (n - 15) 0) 3)) + q.getD (n - 16) 0)
def spS (t : Nat) (q : List Int) : List Int := q.set (t + 16) (spV (t + 16) q)
def spF (b : List Int) : List Int := itN spS 48 (spI b)
def rT1 (w : List Int) (t : Nat) (s : List Int) : Int :=
  IntKind.u32.wrap (IntKind.u32.wrap (IntKind.u32.wrap (s.getD 7 0 + turnS (s.getD 4 0) [6, 11, 25]) + bxr .u32 (bnd .u32 (s.getD 4 0) (s.getD 5 0)) (bnd .u32 (bxr .u32 4294967295 (s.getD 4 0)) (s.getD 6 0))) + IntKind.u32.wrap (K256.getD t 0 + w.getD t 0))
def rT2 (s : List Int) : Int :=
  IntKind.u32.wrap (turnS (s.getD 0 0) [2, 13, 22] + bxr .u32 (bxr .u32 (bnd .u32 (s.getD 0 0) (s.getD 1 0)) (bnd .u32 (s.getD 0 0) (s.getD 2 0))) (bnd .u32 (s.getD 1 0) (s.getD 2 0)))
def rnS (w : List Int) (t : Nat) (s : List Int) : List Int :=
  [IntKind.u32.wrap (rT1 w t s + rT2 s), s.getD 0 0, s.getD 1 0, s.getD 2 0, IntKind.u32.wrap (s.getD 3 0 + rT1 w t s), s.getD 4 0, s.getD 5 0, s.getD 6 0]
def adS (s : List Int) (i : Nat) (q : List Int) : List Int := q.set i (IntKind.u32.wrap (q.getD i 0 + s.getD i 0))
def cmpF (h b : List Int) : List Int := itN (adS (itN (rnS (spF b)) 64 h)) 8 h
theorem itN_length {f : Nat → List Int → List Int} {m : Nat} (hf : ∀ j q, q.length = m → (f j q).length = m) : ∀ (n : Nat) (q : List Int), q.length = m → (itN f n q).length = m
  | 0, q, h => h
  | n + 1, q, h => hf _ _ (itN_length hf n q h)
theorem spI_length (b : List Int) : (spI b).length = 64 := itN_length (fun j q h => by simp [wd4S, h]) _ _ (by simp)
theorem spF_length (b : List Int) : (spF b).length = 64 := itN_length (fun j q h => by simp [spS, h]) _ _ (spI_length b)
theorem cmpF_length {h b : List Int} (hh : h.length = 8) : (cmpF h b).length = 8 := itN_length (fun j q h => by simp [adS, h]) _ _ hh
theorem getD_set_self {l : List Int} {i : Nat} (v : Int) (h : i < l.length) : (l.set i v).getD i 0 = v := by
  simp [List.getD_eq_getElem?_getD, h]
theorem getD_set_other {l : List Int} {i j : Nat} (v : Int) (h : i ≠ j) : (l.set i v).getD j 0 = l.getD j 0 := by
  simp [List.getD_eq_getElem?_getD, List.getElem?_set, h]
/-- Four stores in one place, each out of what stands there. -/
theorem sp_four {q : List Int} {t : Int} (hq : q.length = 64) (h0 : 16 ≤ t) (h1 : t < 64) (A B : Int) :
    (((q.set t.toNat A).set t.toNat (IntKind.u32.wrap ((q.set t.toNat A).getD t.toNat 0 + (q.set t.toNat A).getD (t - 7).toNat 0))).set t.toNat (IntKind.u32.wrap (((q.set t.toNat A).set t.toNat (IntKind.u32.wrap ((q.set t.toNat A).getD t.toNat 0 + (q.set t.toNat A).getD (t - 7).toNat 0))).getD t.toNat 0 + B))).set t.toNat
      (IntKind.u32.wrap ((((q.set t.toNat A).set t.toNat (IntKind.u32.wrap ((q.set t.toNat A).getD t.toNat 0 + (q.set t.toNat A).getD (t - 7).toNat 0))).set t.toNat (IntKind.u32.wrap (((q.set t.toNat A).set t.toNat (IntKind.u32.wrap ((q.set t.toNat A).getD t.toNat 0 + (q.set t.toNat A).getD (t - 7).toNat 0))).getD t.toNat 0 + B))).getD t.toNat 0 +
        (((q.set t.toNat A).set t.toNat (IntKind.u32.wrap ((q.set t.toNat A).getD t.toNat 0 + (q.set t.toNat A).getD (t - 7).toNat 0))).set t.toNat (IntKind.u32.wrap (((q.set t.toNat A).set t.toNat (IntKind.u32.wrap ((q.set t.toNat A).getD t.toNat 0 + (q.set t.toNat A).getD (t - 7).toNat 0))).getD t.toNat 0 + B))).getD (t - 16).toNat 0))
    = q.set t.toNat (IntKind.u32.wrap (IntKind.u32.wrap (IntKind.u32.wrap (A + q.getD (t.toNat - 7) 0) + B) + q.getD (t.toNat - 16) 0)) := by
  have e7 : (t - 7).toNat = t.toNat - 7 := by omega
  have e16 : (t - 16).toNat = t.toNat - 16 := by omega
  have hl : t.toNat < q.length := by omega
  simp only [List.set_set, e7, e16, getD_set_self _ hl, getD_set_other _ (show t.toNat ≠ t.toNat - 7 by omega), getD_set_other _ (show t.toNat ≠ t.toNat - 16 by omega)]

/-- What a round of the program makes of the eight words. -/
theorem rn_made {s : List Int} (hs : s.length = 8) (t1 t2 : Int) :
    ((s.take 1 ++ ((s.drop 0).take 7 ++ s.drop 8)).set 4 (IntKind.u32.wrap ((s.take 1 ++ ((s.drop 0).take 7 ++ s.drop 8)).getD 4 0 + t1))).set 0 (IntKind.u32.wrap (t1 + t2)) =
    [IntKind.u32.wrap (t1 + t2), s.getD 0 0, s.getD 1 0, s.getD 2 0, IntKind.u32.wrap (s.getD 3 0 + t1), s.getD 4 0, s.getD 5 0, s.getD 6 0] := by
  obtain ⟨a, b, c, d, e, f, g, i, rfl⟩ := list8 hs
  rfl

def padZ (n : Nat) : Nat := (119 - n % 64) % 64
def padF (b : List Int) : List Int := b ++ 128 :: List.replicate (padZ b.length) 0 ++ ei8 ((b.length : Int) * 8)
theorem padF_length (b : List Int) : (padF b).length = b.length + 9 + padZ b.length := by
  simp [padF, ei8_length]; omega
theorem padF_mod (b : List Int) : (padF b).length % 64 = 0 := by
  rw [padF_length]; unfold padZ; omega
theorem padF_le (b : List Int) : (padF b).length ≤ b.length + 72 := by
  rw [padF_length]; unfold padZ; omega

def byt32 (x : Int) (j : Nat) : Int := IntKind.u8.wrap (shrV .u32 x (24 - 8 * (j : Int)))
def ouS (h : List Int) (p : Nat) (q : List Int) : List Int := q.set p (byt32 (h.getD (p / 4) 0) (p % 4))
def hnS (p : List Int) (j : Nat) (h : List Int) : List Int := cmpF h ((p.drop (64 * j)).take 64)
def hN (b : List Int) : List Int := itN (hnS (padF b)) ((padF b).length / 64) H256
def shaF (b : List Int) : List Int := itN (ouS (hN b)) 32 (List.replicate 32 0)
theorem shaF_length (b : List Int) : (shaF b).length = 32 := itN_length (fun j q h => by simp [ouS, h]) _ _ (by simp)

theorem bor_r (a b : Int) : 0 ≤ bor .u32 a b ∧ bor .u32 a b < 4294967296 := by
  show 0 ≤ IntKind.u32.wrap _ ∧ IntKind.u32.wrap _ < _
  rw [wrap32]; omega
theorem bor_comm (a b : Int) : bor .u32 a b = bor .u32 b a := by
  show IntKind.u32.wrap _ = IntKind.u32.wrap _
  rw [BitVec.or_comm]
theorem bxr_zero {a : Int} (h : 0 ≤ a ∧ a < 4294967296) : bxr .u32 0 a = a := by
  have hu : bxr .u32 0 a = IntKind.u32.wrap ((BitVec.ofInt 32 0 ^^^ BitVec.ofInt 32 a).toNat : Int) := rfl
  rw [hu, wrap32, show BitVec.ofInt 32 0 = 0#32 from rfl, BitVec.zero_xor, BitVec.toNat_ofInt]
  omega
theorem rot_eq (x : Int) {n k : Int} (h1 : bnd .u64 (IntKind.u64.wrap (0 - n)) 31 = k) (h2 : IntKind.u64.wrap (32 - k) = n) (h3 : IntKind.u64.wrap (32 - n) = k) : rotl x (0 - n) = rotr x n := by
  unfold rotl rotr
  rw [h1, h2, h3, bor_comm]
theorem rotr_r (x n : Int) : 0 ≤ rotr x n ∧ rotr x n < 4294967296 := bor_r _ _
theorem tu_two (x : Int) {a b : Int} (ha : rotl x (0 - a) = rotr x a) (hb : rotl x (0 - b) = rotr x b) : turnS x [a, b] = bxr .u32 (rotr x a) (rotr x b) := by
  have : turnS x [a, b] = bxr .u32 (bxr .u32 0 (rotl x (0 - a))) (rotl x (0 - b)) := rfl
  rw [this, ha, hb, bxr_zero (rotr_r _ _)]
theorem tu_three (x : Int) {a b c : Int} (ha : rotl x (0 - a) = rotr x a) (hb : rotl x (0 - b) = rotr x b) (hc : rotl x (0 - c) = rotr x c) : turnS x [a, b, c] = bxr .u32 (bxr .u32 (rotr x a) (rotr x b)) (rotr x c) := by
  have : turnS x [a, b, c] = bxr .u32 (bxr .u32 (bxr .u32 0 (rotl x (0 - a))) (rotl x (0 - b))) (rotl x (0 - c)) := rfl
  rw [this, ha, hb, hc, bxr_zero (rotr_r _ _)]
theorem tu17 (x : Int) : turnS x [17, 19] = bxr .u32 (rotr x 17) (rotr x 19) := tu_two x (rot_eq x (k := 15) (by kernel_rfl) (by kernel_rfl) (by kernel_rfl)) (rot_eq x (k := 13) (by kernel_rfl) (by kernel_rfl) (by kernel_rfl))
theorem tu7 (x : Int) : turnS x [7, 18] = bxr .u32 (rotr x 7) (rotr x 18) := tu_two x (rot_eq x (k := 25) (by kernel_rfl) (by kernel_rfl) (by kernel_rfl)) (rot_eq x (k := 14) (by kernel_rfl) (by kernel_rfl) (by kernel_rfl))
theorem tu6 (x : Int) : turnS x [6, 11, 25] = bxr .u32 (bxr .u32 (rotr x 6) (rotr x 11)) (rotr x 25) := tu_three x (rot_eq x (k := 26) (by kernel_rfl) (by kernel_rfl) (by kernel_rfl)) (rot_eq x (k := 21) (by kernel_rfl) (by kernel_rfl) (by kernel_rfl)) (rot_eq x (k := 7) (by kernel_rfl) (by kernel_rfl) (by kernel_rfl))
theorem tu2 (x : Int) : turnS x [2, 13, 22] = bxr .u32 (bxr .u32 (rotr x 2) (rotr x 13)) (rotr x 22) := tu_three x (rot_eq x (k := 30) (by kernel_rfl) (by kernel_rfl) (by kernel_rfl)) (rot_eq x (k := 19) (by kernel_rfl) (by kernel_rfl) (by kernel_rfl)) (rot_eq x (k := 10) (by kernel_rfl) (by kernel_rfl) (by kernel_rfl))
theorem wr3 (a b c : Int) : IntKind.u32.wrap (IntKind.u32.wrap (a + b) + c) = IntKind.u32.wrap (a + IntKind.u32.wrap (b + c)) := by
  simp only [wrap32]; omega
def wbV (b : List Int) (t : Nat) : Int := bor .u32 (bor .u32 (bor .u32 (shlV .u32 (IntKind.u32.wrap (b.getD (4 * t) 0)) 24) (shlV .u32 (IntKind.u32.wrap (b.getD (4 * t + 1) 0)) 16)) (shlV .u32 (IntKind.u32.wrap (b.getD (4 * t + 2) 0)) 8)) (IntKind.u32.wrap (b.getD (4 * t + 3) 0))
def wbS (b : List Int) (t : Nat) (q : List Int) : List Int := q.set t (wbV b t)
theorem bor_add (k : Nat) {a b : Int} (h0 : 0 ≤ a) (h1 : a < 4294967296) (h2 : a % (2 ^ k : Nat) = 0) (h3 : 0 ≤ b) (h4 : b < (2 ^ k : Nat)) (h5 : a + b < 4294967296) : bor .u32 a b = a + b := by
  have hu : bor .u32 a b = IntKind.u32.wrap ((BitVec.ofInt 32 a ||| BitVec.ofInt 32 b).toNat : Int) := rfl
  rw [hu, wrap32, BitVec.toNat_or, BitVec.toNat_ofInt, BitVec.toNat_ofInt]
  have e1 : (a % ((2 ^ 32 : Nat) : Int)).toNat = a.toNat := by congr 1; omega
  have e2 : (b % ((2 ^ 32 : Nat) : Int)).toNat = b.toNat := by congr 1; omega
  rw [e1, e2]
  have hk : (0 : Int) < (2 ^ k : Nat) := by exact_mod_cast Nat.two_pow_pos k
  have e3 : a.toNat = 2 ^ k * (a.toNat / 2 ^ k) := by
    have : a.toNat % 2 ^ k = 0 := by
      have h := h2
      rw [← Int.toNat_of_nonneg h0] at h
      exact_mod_cast h
    have := Nat.div_add_mod a.toNat (2 ^ k)
    omega
  have e4 := Nat.two_pow_add_eq_or_of_lt (i := k) (b := b.toNat) (by omega) (a.toNat / 2 ^ k)
  rw [e3, ← e4, ← e3]
  omega
theorem shl32 (x : Int) (n : Nat) (hn : n < 32) : shlV .u32 x (n : Int) = x * (2 ^ n : Nat) % 4294967296 := by
  unfold shlV
  rw [wrap32]
  have : min (n : Int).toNat (IntKind.bits .u32) = n := by simp [IntKind.bits]; omega
  rw [this]
  simp
theorem four_bytes {a b c d : Int} (ha : 0 ≤ a ∧ a < 256) (hb : 0 ≤ b ∧ b < 256) (hc : 0 ≤ c ∧ c < 256) (hd : 0 ≤ d ∧ d < 256) :
    bor .u32 (shlV .u32 (bor .u32 (shlV .u32 (bor .u32 (shlV .u32 (bor .u32 (shlV .u32 0 8) (IntKind.u32.wrap a)) 8) (IntKind.u32.wrap b)) 8) (IntKind.u32.wrap c)) 8) (IntKind.u32.wrap d) =
    bor .u32 (bor .u32 (bor .u32 (shlV .u32 (IntKind.u32.wrap a) 24) (shlV .u32 (IntKind.u32.wrap b) 16)) (shlV .u32 (IntKind.u32.wrap c) 8)) (IntKind.u32.wrap d) := by
  have w : ∀ x : Int, 0 ≤ x ∧ x < 256 → IntKind.u32.wrap x = x := fun x h => by rw [wrap32]; omega
  have s8 : ∀ x : Int, shlV .u32 x 8 = x * 256 % 4294967296 := fun x => by have := shl32 x 8 (by decide); simpa using this
  have s16 : ∀ x : Int, shlV .u32 x 16 = x * 65536 % 4294967296 := fun x => by have := shl32 x 16 (by decide); simpa using this
  have s24 : ∀ x : Int, shlV .u32 x 24 = x * 16777216 % 4294967296 := fun x => by have := shl32 x 24 (by decide); simpa using this
  simp only [w a ha, w b hb, w c hc, w d hd, s8, s16, s24]
  have p8 : ((2 ^ 8 : Nat) : Int) = 256 := rfl
  have p16 : ((2 ^ 16 : Nat) : Int) = 65536 := rfl
  have p24 : ((2 ^ 24 : Nat) : Int) = 16777216 := rfl
  rw [bor_add 8 (a := 0 * 256 % 4294967296) (b := a) (by omega) (by omega) (by omega) (by omega) (by omega) (by omega)]
  rw [bor_add 8 (b := b) (by omega) (by omega) (by omega) (by omega) (by omega) (by omega)]
  rw [bor_add 8 (b := c) (by omega) (by omega) (by omega) (by omega) (by omega) (by omega)]
  rw [bor_add 8 (b := d) (by omega) (by omega) (by omega) (by omega) (by omega) (by omega)]
  rw [bor_add 24 (a := a * 16777216 % 4294967296) (b := b * 65536 % 4294967296) (by omega) (by omega) (by omega) (by omega) (by omega) (by omega)]
  rw [bor_add 16 (b := c * 256 % 4294967296) (by omega) (by omega) (by omega) (by omega) (by omega) (by omega)]
  rw [bor_add 8 (b := d) (by omega) (by omega) (by omega) (by omega) (by omega) (by omega)]
  omega
theorem itN_other {f : Nat → List Int → List Int} (hf : ∀ j q k, j ≠ k → (f j q).getD k 0 = q.getD k 0) : ∀ (n : Nat) (q : List Int) (k : Nat), n ≤ k → (itN f n q).getD k 0 = q.getD k 0
  | 0, q, k, _ => rfl
  | n + 1, q, k, h => by rw [itN, hf _ _ _ (by omega), itN_other hf n q k (by omega)]
theorem four_steps (b : List Int) (t : Nat) (ht : t < 64) (q : List Int) (hq : q.length = 64) (h0 : q.getD t 0 = 0) (hr : ∀ j, 0 ≤ b.getD j 0 ∧ b.getD j 0 < 256) :
    wd4S b (4 * t + 3) (wd4S b (4 * t + 2) (wd4S b (4 * t + 1) (wd4S b (4 * t) q))) = wbS b t q := by
  have e0 : (4 * t) / 4 = t := by omega
  have e1 : (4 * t + 1) / 4 = t := by omega
  have e2 : (4 * t + 2) / 4 = t := by omega
  have e3 : (4 * t + 3) / 4 = t := by omega
  have hl : t < q.length := by omega
  simp only [wd4S, wbS, e0, e1, e2, e3, List.set_set, getD_set_self _ hl, h0]
  rw [four_bytes (hr _) (hr _) (hr _) (hr _)]
  rfl
theorem spI_eq (b : List Int) (hr : ∀ j, 0 ≤ b.getD j 0 ∧ b.getD j 0 < 256) : ∀ n, n ≤ 16 → itN (wd4S b) (4 * n) (List.replicate 64 0) = itN (wbS b) n (List.replicate 64 0)
  | 0, _ => rfl
  | n + 1, h => by
    have ih := spI_eq b hr n (by omega)
    rw [show 4 * (n + 1) = 4 * n + 1 + 1 + 1 + 1 by omega]
    simp only [itN]
    rw [ih]
    refine four_steps b n (by omega) _ (itN_length (fun j q h => by simp [wbS, h]) _ _ (by simp)) ?_ hr
    rw [itN_other (fun j q k hjk => by simp only [wbS]; exact getD_set_other _ hjk) n _ n (Nat.le_refl _)]
    rw [List.getD_eq_getElem?_getD, List.getElem?_replicate]
    split <;> rfl

theorem padF_range {b : List Int} (hr : ∀ j, 0 ≤ b.getD j 0 ∧ b.getD j 0 < 256) : ∀ x ∈ padF b, 0 ≤ x ∧ x < 256 := by
  intro x hx
  simp only [padF, List.mem_append, List.mem_cons] at hx
  rcases hx with (h | rfl | h) | h
  · exact mem_of_get (p := fun x => 0 ≤ x ∧ x < 256) hr x h
  · omega
  · have := List.eq_of_mem_replicate h; omega
  · exact ei8_range _ x h
theorem shaF_range (b : List Int) : ∀ x ∈ shaF b, 0 ≤ x ∧ x < 256 := by
  have key : ∀ n (q : List Int), (∀ x ∈ q, 0 ≤ x ∧ x < 256) → ∀ x ∈ itN (ouS (hN b)) n q, 0 ≤ x ∧ x < 256 := by
    intro n
    induction n with
    | zero => exact fun q h => h
    | succ n ih =>
      intro q h x hx
      simp only [itN, ouS] at hx
      rcases List.mem_or_eq_of_mem_set hx with h1 | rfl
      · exact ih q h x h1
      · unfold byt32; rw [wrap8]; omega
  exact key 32 _ (fun x hx => by have := List.eq_of_mem_replicate hx; omega)
end Go.Pw
