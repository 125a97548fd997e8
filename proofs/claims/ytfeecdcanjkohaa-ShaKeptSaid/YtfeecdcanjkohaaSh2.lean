/-
  Walks of some of this seat's functions: each call's answer, and what it leaves of memory. No condition beside those that stand in each theorem.
-/
import Derived.Test.YtfeecdcanjkohaaRows
import Derived.Test.YtfeecdcanjkohaaSh1
set_option linter.all false
namespace Go.Proofs.Ytfeecdcanjkohaa
open Go.RowKit Go.Px
theorem flat_get {α : Type} (n : Nat) : ∀ (css : List (List α)), (∀ cs ∈ css, cs.length = n) → css.flatten.length = css.length * n ∧ ∀ i j, i < css.length → j < n → css.flatten[i * n + j]? = (css[i]?.getD [])[j]?
  | [], _ => by simp
  | c :: css, h => by
    obtain ⟨i1, i2⟩ := flat_get n css (fun x hx => h x (by simp [hx]))
    have hcl := h c (by simp)
    refine ⟨by simp only [List.flatten_cons, List.length_append, hcl, i1, List.length_cons, Nat.succ_mul]; omega, fun i j hi hj => ?_⟩
    cases i with
    | zero => rw [List.flatten_cons, Nat.zero_mul, Nat.zero_add, List.getElem?_append_left (by omega)]; simp
    | succ i =>
      rw [List.flatten_cons, List.getElem?_append_right (by rw [Nat.succ_mul]; omega), show (i + 1) * n + j - c.length = i * n + j by rw [Nat.succ_mul]; omega, i2 i j (by simpa using hi) hj]
      simp
theorem wrap8 (x : Int) : IntKind.u8.wrap x = x % 256 := by
  simp [IntKind.wrap, IntKind.bits, IntKind.signed]
theorem wrap64 (x : Int) : IntKind.u64.wrap x = x % 18446744073709551616 := by
  simp [IntKind.wrap, IntKind.bits, IntKind.signed]
theorem wrap32 (x : Int) : IntKind.u32.wrap x = x % 4294967296 := by
  simp [IntKind.wrap, IntKind.bits, IntKind.signed]
/-- A byte of a word, the j-th from above. -/
def byt (x : Int) (j : Nat) : Int := IntKind.u8.wrap (shrV .u64 x (56 - 8 * (j : Int)))
theorem ei8_eq (x : Int) : ei8 x = [byt x 0, byt x 1, byt x 2, byt x 3, byt x 4, byt x 5, byt x 6, byt x 7] := by
  simp [ei8, itN, e8S, byt]
theorem frF_map (w : List Int) (n : Nat) : ∀ k, k ≤ n → itN (frS w) k (List.replicate n 0) = (List.range k).map (fun j => byt (w.getD (j / 8) 0) (j % 8)) ++ List.replicate (n - k) 0
  | 0, _ => by simp [itN]
  | k + 1, h => by
    rw [itN, frF_map w n k (by omega), frS, List.range_succ, List.map_append]
    have hr : List.replicate (n - k) (0 : Int) = 0 :: List.replicate (n - (k + 1)) 0 := by
      rw [show n - k = (n - (k + 1)) + 1 by omega, List.replicate_succ]
    rw [hr, List.set_append_right _ _ (by simp)]
    simp [byt]
theorem frF_bytes {w : List Int} {m : Nat} (h : w.length = m) : frF (8 * m) (8 * m) w = w.flatMap ei8 := by
  unfold frF
  rw [frF_map w _ _ (Nat.le_refl _)]
  simp only [Nat.sub_self, List.replicate_zero, List.append_nil]
  have hc : ∀ cs ∈ w.map ei8, cs.length = 8 := by
    intro cs hcs
    obtain ⟨x, _, rfl⟩ := List.mem_map.1 hcs
    exact ei8_length x
  obtain ⟨f1, f2⟩ := flat_get 8 (w.map ei8) hc
  rw [List.flatMap_def]
  apply List.ext_getElem?
  intro j
  by_cases hj : j < 8 * m
  · have hq : j / 8 < w.length := by omega
    have h2 := f2 (j / 8) (j % 8) (by simpa using hq) (by omega)
    rw [show j / 8 * 8 + j % 8 = j by omega] at h2
    rw [h2]
    simp only [List.getElem?_map, List.getElem?_range hj, Option.map_some, List.getElem?_eq_getElem hq, Option.getD_some, List.getD_eq_getElem?_getD, ei8_eq]
    have : j % 8 = 0 ∨ j % 8 = 1 ∨ j % 8 = 2 ∨ j % 8 = 3 ∨ j % 8 = 4 ∨ j % 8 = 5 ∨ j % 8 = 6 ∨ j % 8 = 7 := by omega
    rcases this with h | h | h | h | h | h | h | h <;> simp [h]
  · rw [List.getElem?_eq_none (by simp; omega), List.getElem?_eq_none (by rw [f1]; simp; omega)]
theorem bor_low {a b : Int} (h0 : 0 ≤ a) (h1 : a < 18446744073709551616) (h2 : a % 256 = 0) (h3 : 0 ≤ b) (h4 : b < 256) : bor .u64 a b = a + b := by
  have hu : bor .u64 a b = IntKind.u64.wrap ((BitVec.ofInt 64 a ||| BitVec.ofInt 64 b).toNat : Int) := rfl
  rw [hu, wrap64, BitVec.toNat_or, BitVec.toNat_ofInt, BitVec.toNat_ofInt]
  have e1 : (a % ((2 ^ 64 : Nat) : Int)).toNat = a.toNat := by
    congr 1; omega
  have e2 : (b % ((2 ^ 64 : Nat) : Int)).toNat = b.toNat := by
    congr 1; omega
  rw [e1, e2]
  have e3 : a.toNat = 2 ^ 8 * (a.toNat / 256) := by omega
  have e4 := Nat.two_pow_add_eq_or_of_lt (i := 8) (b := b.toNat) (by omega) (a.toNat / 256)
  rw [e3, ← e4]
  omega
def bstep (a c : Int) : Int := bor .u64 (shlV .u64 a 8) c
def be (l : List Int) : Int := l.foldl bstep 0
theorem bstep_eq {a c : Int} (h0 : 0 ≤ a) (h3 : 0 ≤ c) (h4 : c < 256) : bstep a c = a * 256 % 18446744073709551616 + c := by
  unfold bstep
  have : shlV .u64 a 8 = a * 256 % 18446744073709551616 := by
    simp [shlV, wrap64, IntKind.bits]
  rw [this, bor_low (by omega) (by omega) (by omega) h3 h4]
theorem wd_get {h : List Int} {m : Nat} : ∀ (n p : Nat), n ≤ 8 * m → n ≤ h.length → p < m → (itN (wdS h) n (List.replicate m 0)).getD p 0 = be (((h.take n).drop (8 * p)).take 8) ∧ (itN (wdS h) n (List.replicate m 0)).length = m
  | 0, p, _, _, hp => by simp [itN, be, List.getD_eq_getElem?_getD, hp]
  | n + 1, p, h1, h2, hp => by
    obtain ⟨i1, i2⟩ := wd_get (h := h) (m := m) n p (by omega) (by omega) hp
    obtain ⟨j1, -⟩ := wd_get (h := h) (m := m) n (n / 8) (by omega) (by omega) (by omega)
    refine ⟨?_, by simp [itN, wdS, i2]⟩
    rw [itN, wdS, List.getD_eq_getElem?_getD, List.getElem?_set]
    have ht : h.take (n + 1) = h.take n ++ [h.getD n 0] := by
      rw [List.take_succ, List.getD_eq_getElem?_getD, List.getElem?_eq_getElem (by omega)]; simp
    have hl : (h.take n).length = n := by simp; omega
    by_cases e : n / 8 = p
    · subst e
      rw [if_pos rfl, if_pos (by omega), Option.getD_some, j1, ht]
      rw [List.drop_append_of_le_length (by omega)]
      have hd : ((h.take n).drop (8 * (n / 8))).length < 8 := by rw [List.length_drop, hl]; omega
      generalize (h.take n).drop (8 * (n / 8)) = X at *
      rw [List.take_of_length_le (l := X) (by omega), List.take_of_length_le (l := X ++ [h.getD n 0]) (by simp only [List.length_append, List.length_cons, List.length_nil]; omega)]
      unfold be
      rw [List.foldl_append]
      rfl
    · rw [if_neg e, ← List.getD_eq_getElem?_getD, i1, ht]
      by_cases e2 : 8 * p ≤ n
      · rw [List.drop_append_of_le_length (by omega), List.take_append_of_le_length (by rw [List.length_drop, hl]; omega)]
      · rw [List.drop_eq_nil_of_le (by omega), List.drop_eq_nil_of_le (by simp only [List.length_append, hl, List.length_cons, List.length_nil]; omega)]
theorem list8 {l : List Int} (h : l.length = 8) : ∃ a b c d e f g i, l = [a, b, c, d, e, f, g, i] := by
  match l, h with
  | [a, b, c, d, e, f, g, i], _ => exact ⟨a, b, c, d, e, f, g, i, rfl⟩
theorem byt_eq {x : Int} {j : Nat} (hj : j < 8) : byt x j = x / (2 ^ (56 - 8 * j) : Nat) % 256 := by
  unfold byt shrV
  rw [wrap8]
  have e1 : min (56 - 8 * (j : Int)).toNat (IntKind.bits .u64) = 56 - 8 * j := by simp [IntKind.bits]; omega
  rw [e1, Int.fdiv_eq_ediv_of_nonneg _ (Int.pow_nonneg (by omega))]
  simp
theorem be_val {a b c d e f g i : Int} (ha : 0 ≤ a ∧ a < 256) (hb : 0 ≤ b ∧ b < 256) (hc : 0 ≤ c ∧ c < 256) (hd : 0 ≤ d ∧ d < 256) (he : 0 ≤ e ∧ e < 256) (hf : 0 ≤ f ∧ f < 256) (hg : 0 ≤ g ∧ g < 256) (hi : 0 ≤ i ∧ i < 256) :
    be [a, b, c, d, e, f, g, i] = ((((((a * 256 + b) * 256 + c) * 256 + d) * 256 + e) * 256 + f) * 256 + g) * 256 + i := by
  simp only [be, List.foldl_cons, List.foldl_nil]
  rw [bstep_eq (a := 0) (by omega) ha.1 ha.2]
  rw [bstep_eq (c := b) (by omega) hb.1 hb.2]
  rw [bstep_eq (c := c) (by omega) hc.1 hc.2]
  rw [bstep_eq (c := d) (by omega) hd.1 hd.2]
  rw [bstep_eq (c := e) (by omega) he.1 he.2]
  rw [bstep_eq (c := f) (by omega) hf.1 hf.2]
  rw [bstep_eq (c := g) (by omega) hg.1 hg.2]
  rw [bstep_eq (c := i) (by omega) hi.1 hi.2]
  omega
theorem ei8_be {l : List Int} (h : l.length = 8) (hl : ∀ x ∈ l, 0 ≤ x ∧ x < 256) : ei8 (be l) = l := by
  obtain ⟨a, b, c, d, e, f, g, i, rfl⟩ := list8 h
  simp only [List.mem_cons, List.mem_nil_iff, or_false, forall_eq_or_imp, forall_eq] at hl
  obtain ⟨ha, hb, hc, hd, he, hf, hg, hi⟩ := hl
  rw [ei8_eq, be_val ha hb hc hd he hf hg hi]
  rw [byt_eq (by decide), byt_eq (by decide), byt_eq (by decide), byt_eq (by decide), byt_eq (by decide), byt_eq (by decide), byt_eq (by decide), byt_eq (by decide)]
  simp only [List.cons.injEq, and_true]
  simp only [Nat.reduceMul, Nat.reduceSub, Nat.reducePow, Int.cast_ofNat_Int]
  refine ⟨?_, ?_, ?_, ?_, ?_, ?_, ?_, ?_⟩ <;> omega
theorem be_ei8 {x : Int} (h : 0 ≤ x ∧ x < 18446744073709551616) : be (ei8 x) = x := by
  rw [ei8_eq]
  have hb : ∀ j, j < 8 → byt x j = x / (2 ^ (56 - 8 * j) : Nat) % 256 := fun j hj => byt_eq hj
  have hr : ∀ j, j < 8 → 0 ≤ byt x j ∧ byt x j < 256 := fun j hj => by rw [hb j hj]; omega
  rw [be_val (hr 0 (by decide)) (hr 1 (by decide)) (hr 2 (by decide)) (hr 3 (by decide)) (hr 4 (by decide)) (hr 5 (by decide)) (hr 6 (by decide)) (hr 7 (by decide))]
  rw [hb 0 (by decide), hb 1 (by decide), hb 2 (by decide), hb 3 (by decide), hb 4 (by decide), hb 5 (by decide), hb 6 (by decide), hb 7 (by decide)]
  simp only [Nat.reduceMul, Nat.reduceSub, Nat.reducePow, Int.cast_ofNat_Int]
  omega
theorem wdF_get {h : List Int} {m p : Nat} (hl : h.length = 8 * m) (hp : p < m) : (wdF m (8 * m) h).getD p 0 = be ((h.drop (8 * p)).take 8) := by
  have := (wd_get (h := h) (m := m) (8 * m) p (Nat.le_refl _) (by omega) hp).1
  unfold wdF
  rw [this, List.take_of_length_le (l := h) (by omega)]
theorem words_back {h : List Int} {m : Nat} (hl : h.length = 8 * m) (hb : ∀ x ∈ h, 0 ≤ x ∧ x < 256) : (wdF m (8 * m) h).flatMap ei8 = h := by
  have hw := wdF_length m (8 * m) h
  have hc : ∀ cs ∈ (wdF m (8 * m) h).map ei8, cs.length = 8 := by
    intro cs hcs
    obtain ⟨x, _, rfl⟩ := List.mem_map.1 hcs
    exact ei8_length x
  obtain ⟨f1, f2⟩ := flat_get 8 _ hc
  rw [List.flatMap_def]
  apply List.ext_getElem?
  intro j
  by_cases hj : j < 8 * m
  · have hq : j / 8 < m := by omega
    have h2 := f2 (j / 8) (j % 8) (by simp [hw, hq]) (by omega)
    rw [show j / 8 * 8 + j % 8 = j by omega] at h2
    rw [h2]
    have g := wdF_get hl hq
    simp only [List.getD_eq_getElem?_getD] at g
    simp only [List.getElem?_map]
    have hq' : j / 8 < (wdF m (8 * m) h).length := by omega
    rw [List.getElem?_eq_getElem hq'] at g ⊢
    simp only [Option.getD_some] at g
    simp only [Option.map_some, Option.getD_some, g]
    rw [ei8_be (by simp only [List.length_take, List.length_drop]; omega) (fun x hx => hb x (List.mem_of_mem_drop (List.mem_of_mem_take hx)))]
    rw [List.getElem?_take, if_pos (by omega), List.getElem?_drop]
    congr 1; omega
  · rw [List.getElem?_eq_none (by rw [f1]; simp [hw]; omega), List.getElem?_eq_none (by omega)]
theorem bytes_back {w : List Int} {m : Nat} (hl : w.length = m) (hb : ∀ x ∈ w, 0 ≤ x ∧ x < 18446744073709551616) : wdF m (8 * m) (w.flatMap ei8) = w := by
  have hc : ∀ cs ∈ w.map ei8, cs.length = 8 := by
    intro cs hcs
    obtain ⟨x, _, rfl⟩ := List.mem_map.1 hcs
    exact ei8_length x
  obtain ⟨f1, f2⟩ := flat_get 8 _ hc
  have hlen : (w.flatMap ei8).length = 8 * m := by rw [List.flatMap_def, f1]; simp [hl]; omega
  apply List.ext_getElem
  · rw [wdF_length, hl]
  · intro p p1 p2
    have hp : p < m := by omega
    have g := wdF_get hlen hp
    rw [List.getD_eq_getElem?_getD, List.getElem?_eq_getElem p1, Option.getD_some] at g
    rw [g]
    have : ((w.flatMap ei8).drop (8 * p)).take 8 = ei8 w[p] := by
      apply List.ext_getElem?
      intro j
      rw [List.getElem?_take]
      by_cases hj : j < 8
      · rw [if_pos hj, List.getElem?_drop, List.flatMap_def]
        have h2 := f2 p j (by simpa using p2) hj
        rw [show p * 8 + j = 8 * p + j by omega] at h2
        rw [h2]
        simp [p2]
      · rw [if_neg hj, List.getElem?_eq_none (by rw [ei8_length]; omega)]
    rw [this, be_ei8 (hb _ (List.getElem_mem _))]
theorem mem_of_get {l : List Int} {p : Int → Prop} (h : ∀ j, p (l.getD j 0)) : ∀ x ∈ l, p x := by
  intro x hx
  obtain ⟨i, hi, rfl⟩ := List.mem_iff_getElem.1 hx
  have := h i
  simpa [List.getD_eq_getElem?_getD, hi] using this
theorem get_of_mem {l : List Int} {p : Int → Prop} (h0 : p 0) (h : ∀ x ∈ l, p x) : ∀ j, p (l.getD j 0) := by
  intro j
  rw [List.getD_eq_getElem?_getD]
  cases hj : l[j]? with
  | none => exact h0
  | some x => exact h x (List.mem_of_getElem? hj)

theorem wdF_range (m n : Nat) (h : List Int) : ∀ x ∈ wdF m n h, 0 ≤ x ∧ x < 18446744073709551616 := by
  unfold wdF
  induction n with
  | zero => intro x hx; simp [itN] at hx; omega
  | succ n ih =>
    intro x hx
    simp only [itN, wdS] at hx
    rcases List.mem_or_eq_of_mem_set hx with h | rfl
    · exact ih x h
    · show 0 ≤ IntKind.u64.wrap _ ∧ IntKind.u64.wrap _ < _
      rw [wrap64]; omega
theorem mwW_range (b : List Int) : ∀ x ∈ mwW b, 0 ≤ x ∧ x < 18446744073709551616 := by
  unfold mwW; split
  · exact wdF_range _ _ _
  · intro x hx; simp at hx; omega
theorem byt_range (x : Int) (j : Nat) : 0 ≤ byt x j ∧ byt x j < 256 := by
  unfold byt; rw [wrap8]; omega
theorem frF_range {n : Nat} (w : List Int) : ∀ x ∈ frF n n w, 0 ≤ x ∧ x < 256 := by
  intro x hx
  unfold frF at hx
  rw [frF_map w n n (Nat.le_refl _)] at hx
  simp only [Nat.sub_self, List.replicate_zero, List.append_nil, List.mem_map] at hx
  obtain ⟨j, -, rfl⟩ := hx
  exact byt_range _ _
theorem ei8_range (x : Int) : ∀ y ∈ ei8 x, 0 ≤ y ∧ y < 256 := by
  intro y hy
  rw [ei8_eq] at hy
  simp only [List.mem_cons, List.mem_nil_iff, or_false] at hy
  rcases hy with rfl | rfl | rfl | rfl | rfl | rfl | rfl | rfl <;> exact byt_range _ _
theorem wrR5 (k f t a n : Int) : wrR [k, f, t, a, n] 5 = [k, f, t, a, n].flatMap ei8 := by
  simp [wrR, itN, catS]
theorem wr_bytes {k f t a n : Int} {x y : List Int} (hx : x.length = 32) (hy : y.length = 32) (hxb : ∀ j, 0 ≤ x.getD j 0 ∧ x.getD j 0 < 256) (hyb : ∀ j, 0 ≤ y.getD j 0 ∧ y.getD j 0 < 256) :
    frF 104 104 ([k, f, t, a, n] ++ wdF 4 32 x ++ wdF 4 32 y) = wrR [k, f, t, a, n] 5 ++ x ++ y := by
  have h := frF_bytes (w := [k, f, t, a, n] ++ wdF 4 32 x ++ wdF 4 32 y) (m := 13) (by simp [wdF_length])
  rw [show 8 * 13 = 104 from rfl] at h
  rw [h, List.flatMap_append, List.flatMap_append, wrR5]
  have e1 := words_back (h := x) (m := 4) hx (mem_of_get (p := fun x => 0 ≤ x ∧ x < 256) hxb)
  have e2 := words_back (h := y) (m := 4) hy (mem_of_get (p := fun x => 0 ≤ x ∧ x < 256) hyb)
  rw [show 8 * 4 = 32 from rfl] at e1 e2
  rw [e1, e2]
theorem wrM_range {k f t a n : Int} {x y : List Int} (hxb : ∀ j, 0 ≤ x.getD j 0 ∧ x.getD j 0 < 256) (hyb : ∀ j, 0 ≤ y.getD j 0 ∧ y.getD j 0 < 256) : ∀ z ∈ wrM k f t a n x y, 0 ≤ z ∧ z < 256 := by
  intro z hz
  unfold wrM at hz
  split at hz
  · rw [wrR5] at hz
    simp only [List.mem_append, List.mem_flatMap] at hz
    rcases hz with (⟨v, -, h⟩ | h) | h
    · exact ei8_range v z h
    · exact mem_of_get (p := fun x => 0 ≤ x ∧ x < 256) hxb z h
    · exact mem_of_get (p := fun x => 0 ≤ x ∧ x < 256) hyb z h
  · simp at hz
structure Ms where
  k : Int
  f : Int
  t : Int
  a : Int
  n : Int
  x : List Int
  y : List Int
def rdX (b : List Int) : List Int := frF 32 32 (((mwW b).drop 5).take 4)
def rdY (b : List Int) : List Int := frF 32 32 (((mwW b).drop 9).take 4)
def rdOk (b : List Int) : Bool := decide (mwE b = 0 ∧ (mwW b).getD 0 0 ≤ 3) && mayM (IntKind.u8.wrap ((mwW b).getD 0 0)) ((mwW b).getD 1 0) ((mwW b).getD 2 0) ((mwW b).getD 3 0) ((mwW b).getD 4 0) (rdX b) (rdY b)
def rdM (b : List Int) : Ms := if rdOk b = true then ⟨IntKind.u8.wrap ((mwW b).getD 0 0), (mwW b).getD 1 0, (mwW b).getD 2 0, (mwW b).getD 3 0, (mwW b).getD 4 0, rdX b, rdY b⟩ else ⟨0, 0, 0, 0, 0, List.replicate 32 0, List.replicate 32 0⟩
def rdE (b : List Int) : Int := if rdOk b = true then 0 else if mwE b = 0 then 8 else mwE b
theorem rdM_x (b : List Int) : (rdM b).x.length = 32 := by unfold rdM; split <;> simp [rdX, frF_length]
theorem rdM_y (b : List Int) : (rdM b).y.length = 32 := by unfold rdM; split <;> simp [rdY, frF_length]
theorem four (w : List Int) (k : Nat) (h : k + 4 ≤ w.length) : (w.drop k).take 4 = [w.getD k 0, w.getD (k + 1) 0, w.getD (k + 2) 0, w.getD (k + 3) 0] := by
  apply List.ext_getElem
  · simp; omega
  · intro i h1 h2
    simp at h2
    have : i = 0 ∨ i = 1 ∨ i = 2 ∨ i = 3 := by omega
    rcases this with rfl | rfl | rfl | rfl <;> simp [List.getD_eq_getElem?_getD] <;> rw [List.getElem?_eq_getElem (by omega)] <;> simp

noncomputable def cd_proctorref01_Same : Code := (Try.f26.body).getD .skip
theorem proctorref01_Same (w : World) (a : List Int) (A : Option Addr) (c : Nat) (b : List Int) (B : Option Addr) (d : Nat) (ha : Rd w A (iv .u8 a)) (hb : Rd w B (iv .u8 b)) (har : ∀ x ∈ a, 0 ≤ x ∧ x < 256) (hbr : ∀ x ∈ b, 0 ≤ x ∧ x < 256) :
    Calls Try.prog 26 #[.slice A a.length c, .slice B b.length d] w (fun e w' => e = .returned (.bool (decide (a = b))) ∧ Hp no w w' []) := by
  refine enter (args := [_, _]) (c := cd_proctorref01_Same) (N := 10) Try.func26 (by kernel_rfl) (by kernel_rfl) (by simp) ?_
  have H := Hp.start w
  refine wn_seq (by kernel_rfl) ?_
  refine wn_reg 1 (by kernel_rfl) ?_
  refine wc_run (T' := [(0, .slice A a.length c), (1, .slice B b.length d)]) (L2 := (rng 1 0)) 1 [0, 1] (by kernel_rfl) ?_
  refine wc_nil rfl ?_
  refine n_sq ?_
  refine wn_seq (by kernel_rfl) ?_
  refine wn_regO [(1, 1), (3, 1)] 6 (by kernel_rfl) ?_
  refine wc_run (T' := [(1, .slice B b.length d), (5, .slice A a.length c)]) (L2 := (rng 1 5)) 1 [1, 5] (by kernel_rfl) ?_
  refine wc_bs (A := A) (n := a.length) (c := c) (some 6) a (by kernel_rfl) (ha.keep H.keep) (by first | rfl | first | omega | (simp only [List.length_append, List.length_cons, List.length_nil, List.length_set, List.length_replicate, List.length_drop, List.length_take, iv_length, Nat.zero_add] at * <;> omega)) ?_
  refine wc_run (T' := [(6, .string (strOfNums a)), (7, .slice B b.length d)]) (L2 := (rng 3 3)) 1 [6, 7] (by kernel_rfl) ?_
  refine wc_bs (A := B) (n := b.length) (c := d) (some 8) b (by kernel_rfl) (hb.keep H.keep) (by first | rfl | first | omega | (simp only [List.length_append, List.length_cons, List.length_nil, List.length_set, List.length_replicate, List.length_drop, List.length_take, iv_length, Nat.zero_add] at * <;> omega)) ?_
  refine wc_se (some 9) true a b 0 (by kernel_rfl) (by first | assumption | (simp; done) | decide) (by first | assumption | (simp; done) | decide) ?_
  simp only [if_true, Bool.false_eq_true, if_false]
  refine wc_run (T' := [(4, .bool (decide (a = b)))]) (L2 := (rng 6 0)) 1 [4] (by kernel_rfl) ?_
  refine wc_nil rfl ?_
  refine n_sq ?_
  refine wn_ret (by kernel_rfl) ?_
  refine ret1 _ (Or.inr rfl) Try.results26 rfl ?_
  exact ⟨rfl, H.nil⟩

noncomputable def cd_msg_Write : Code := (Try.f22.body).getD .skip
theorem msg_Write (w : World) (k : Int) (f : Int) (t : Int) (a : Int) (n : Int) (x : List Int) (y : List Int) (hx : x.length = 32) (hy : y.length = 32) (hk : 0 ≤ k ∧ k < 256) (hf : 0 ≤ f ∧ f < 18446744073709551616) (ht : 0 ≤ t ∧ t < 18446744073709551616) (ha : 0 ≤ a ∧ a < 18446744073709551616) (hn : 0 ≤ n ∧ n < 18446744073709551616) (hxb : ∀ j, 0 ≤ x.getD j 0 ∧ x.getD j 0 < 256) (hyb : ∀ j, 0 ≤ y.getD j 0 ∧ y.getD j 0 < 256) :
    Calls Try.prog 22 #[.agg ([.int .u8 k, .int .u64 f, .int .u64 t, .int .u64 a, .int .u64 n] ++ ((iv .u8 x) ++ (iv .u8 y)) : List Value).toArray] w (fun e w' => ∃ (A : Option Addr), ∃ (c : Nat), e = .returned (.tuple #[.slice A ((wrM k f t a n x y).length) c, .int .i64 (wrE k f t a n x y)]) ∧ Hp no w w' [.sl A ((wrM k f t a n x y).length) c (iv .u8 (wrM k f t a n x y)) 5 1] ∧ (∀ z ∈ wrM k f t a n x y, 0 ≤ z ∧ z < 256) ∧ (∀ j, 0 ≤ (wrM k f t a n x y).getD j 0 ∧ (wrM k f t a n x y).getD j 0 < 256) ∧ (wrM k f t a n x y).length ≤ 104) := by
  have hz := wr_bytes (k := k) (f := f) (t := t) (a := a) (n := n) hx hy hxb hyb
  have hM0 : mayM k f t a n x y = false → wrM k f t a n x y = [] := fun h => by unfold wrM; rw [if_neg (by rw [h]; decide)]
  have hM1 : mayM k f t a n x y = true → wrM k f t a n x y = wrR [k, f, t, a, n] 5 ++ x ++ y := fun h => by unfold wrM; rw [if_pos h]
  have hE0 : mayM k f t a n x y = false → wrE k f t a n x y = 2 := fun h => by unfold wrE; rw [if_neg (by rw [h]; decide)]
  have hE1 : mayM k f t a n x y = true → wrE k f t a n x y = 0 := fun h => by unfold wrE; rw [if_pos h]
  refine enter (args := [_]) (c := cd_msg_Write) (N := 59) Try.func22 (by kernel_rfl) (by kernel_rfl) (by simp) ?_
  have H := Hp.start w
  refine wn_seq (by kernel_rfl) ?_
  refine wn_reg 3 (by kernel_rfl) ?_
  refine wc_new H (some 1) (row ([.int .u8 k, .int .u64 f, .int .u64 t, .int .u64 a, .int .u64 n] ++ ((iv .u8 x) ++ (iv .u8 y))) 49) (fun r => .pointer (some ⟨r, 0, none⟩)) (by kernel_rfl) (fun b1 w2 H => ?_)
  refine wc_run (T' := [(1, .pointer (some ⟨b1, 0, none⟩))]) (L2 := (rng 3 0)) 2 [1] (by kernel_rfl) ?_
  refine wc_nil rfl ?_
  refine n_sq ?_
  refine wn_seq (by kernel_rfl) ?_
  refine wn_seq (by kernel_rfl) ?_
  refine wn_reg 3 (by kernel_rfl) ?_
  refine wc_ld (b := b1) (off := 0) (some 9) 49 (.agg ([.int .u8 k, .int .u64 f, .int .u64 t, .int .u64 a, .int .u64 n] ++ ((iv .u8 x) ++ (iv .u8 y)) : List Value).toArray) (by kernel_rfl) (Ld.entW H 0 (n := 69) rfl (by kernel_rfl) (by exact (lenA (rfl : ([.int .u8 k, .int .u64 f, .int .u64 t, .int .u64 a, .int .u64 n] : List Value).length = 5) (lenA ((iv_length .u8 x).trans hx) ((iv_length .u8 y).trans hy))))) ?_
  refine wc_call (some 10) (by kernel_rfl) (msg_May w2 k f t a n x y hx hy hk hf ht ha hn hxb hyb) ?_
  rintro _ w3 ⟨rfl, H1⟩
  refine ⟨_, rfl, fun _ => H1.keep, ?_⟩
  replace H := H.call H1
  simp only [List.nil_append] at H
  refine wc_run (T' := [(1, .pointer (some ⟨b1, 0, none⟩)), (11, .bool (!(mayM k f t a n x y)))]) (L2 := (rng 3 0)) 1 [1, 11] (by kernel_rfl) ?_
  refine wc_nil rfl ?_
  refine n_sq ?_
  refine wn_cond (.tmp 11) (!(mayM k f t a n x y)) (by kernel_rfl) rfl (fun hc4 => ?_) (fun hc4 => ?_)
  · have hc4 := notT hc4
    refine wn_seq (by kernel_rfl) ?_
    refine wn_reg 2 (by kernel_rfl) ?_
    refine wc_run (T' := [(2, .slice none 0 0), (3, .int .i64 2)]) (L2 := (rng 2 0)) 2 [2, 3] (by kernel_rfl) ?_
    refine wc_nil rfl ?_
    refine n_sq ?_
    refine wn_ret (by kernel_rfl) ?_
    refine r_sq ?_
    refine ret2 _ (Or.inr rfl) Try.results22 rfl rfl ?_
    have H := H.nils 5 1
    have he5 : (wrM k f t a n x y) = [] := by
      exact hM0 hc4
    have he6 : wrE k f t a n x y = (2 : Int) := by
      exact hE0 hc4
    exact ⟨none, 0, by first | (rw [he5, he6]; done) | (rw [he5, he6]; rfl) | (rw [he6]; done) | (rw [he6]; rfl), (by rw [he5]; exact H.sel [0] (by decide) rfl), by exact wrM_range hxb hyb, by exact get_of_mem (p := fun x => 0 ≤ x ∧ x < 256) (by omega) (wrM_range hxb hyb), by rw [wrM_len _ _ _ _ _ hx hy]; split <;> omega⟩
  · have hc4 := notF hc4
    refine wn_skip (by kernel_rfl) ?_
    refine n_sq ?_
    refine wn_seq (by kernel_rfl) ?_
    refine wn_reg 1 (by kernel_rfl) ?_
    refine wc_new H (some 4) (row (iv .u64 (List.replicate 13 0)) 61) (fun r => .pointer (some ⟨r, 0, none⟩)) (by kernel_rfl) (fun b7 w8 H => ?_)
    refine wc_nil rfl ?_
    refine n_sq ?_
    refine wn_seq (by kernel_rfl) ?_
    refine wn_regX [(12, 2), (14, 2), (16, 2), (18, 2), (20, 2)] (fun k => k = b7) (ol [0, 1, 2, 3, 4, 5, 6, 7, 8, 9, 10, 11, 12, 13, 14, 15, 16, 17, 18, 19, 20]) (by kernel_rfl) H (fun w9 H => ?_)
    refine wc_run (T' := [(1, .pointer (some ⟨b1, 0, none⟩)), (4, .pointer (some ⟨b7, 0, none⟩)), (12, .pointer (some ⟨b1, 0, none⟩))]) (L2 := (ol [1, 2, 3, 4, 5, 6, 7, 8, 9, 10, 11, 12, 13, 14, 15, 16, 17, 18, 19, 20])) 1 [1, 4, 12] (by kernel_rfl) ?_
    refine wc_ld (b := b1) (off := 0) (some 13) 45 (.int .u8 k) (by kernel_rfl) (Ld.ent1 H 1 rfl (by kernel_rfl) (by rfl) (by intro e; exact absurd e (H.ne 1 0 rfl rfl (by decide)))) ?_
    refine wc_run (T' := [(1, .pointer (some ⟨b1, 0, none⟩)), (4, .pointer (some ⟨b7, 0, none⟩)), (14, .int .u64 (IntKind.u64.wrap (k)))]) (L2 := (ol [3, 4, 5, 6, 7, 8, 9, 10, 11, 12, 13, 14, 15, 16, 17, 18, 19, 20])) 1 [1, 4, 14] (by kernel_rfl) ?_
    rw [wu64 (x := k) (by first | omega | (simp only [List.length_append, List.length_cons, List.length_nil, List.length_set, List.length_replicate, List.length_drop, List.length_take, iv_length, Nat.zero_add] at * <;> omega)) (by first | omega | (simp only [List.length_append, List.length_cons, List.length_nil, List.length_set, List.length_replicate, List.length_drop, List.length_take, iv_length, Nat.zero_add] at * <;> omega))]
    refine wc_run (T' := [(1, .pointer (some ⟨b1, 0, none⟩)), (4, .pointer (some ⟨b7, 0, none⟩)), (14, .int .u64 k), (15, .pointer (some ⟨b1, 1, none⟩))]) (L2 := (ol [4, 5, 6, 7, 8, 9, 10, 11, 12, 13, 14, 15, 16, 17, 18, 19, 20])) 1 [1, 4, 14, 15] (by kernel_rfl) ?_
    refine wc_ld (b := b1) (off := 1) (some 16) 22 (.int .u64 f) (by kernel_rfl) (Ld.ent1 H 1 rfl (by kernel_rfl) (by rfl) (by intro e; exact absurd e (H.ne 1 0 rfl rfl (by decide)))) ?_
    refine wc_run (T' := [(1, .pointer (some ⟨b1, 0, none⟩)), (4, .pointer (some ⟨b7, 0, none⟩)), (14, .int .u64 k), (16, .int .u64 f), (17, .pointer (some ⟨b1, 2, none⟩))]) (L2 := (ol [6, 7, 8, 9, 10, 11, 12, 13, 14, 15, 16, 17, 18, 19, 20])) 1 [1, 4, 14, 16, 17] (by kernel_rfl) ?_
    refine wc_ld (b := b1) (off := 2) (some 18) 22 (.int .u64 t) (by kernel_rfl) (Ld.ent1 H 1 rfl (by kernel_rfl) (by rfl) (by intro e; exact absurd e (H.ne 1 0 rfl rfl (by decide)))) ?_
    refine wc_run (T' := [(1, .pointer (some ⟨b1, 0, none⟩)), (4, .pointer (some ⟨b7, 0, none⟩)), (14, .int .u64 k), (16, .int .u64 f), (18, .int .u64 t), (19, .pointer (some ⟨b1, 3, none⟩))]) (L2 := (ol [8, 9, 10, 11, 12, 13, 14, 15, 16, 17, 18, 19, 20])) 1 [1, 4, 14, 16, 18, 19] (by kernel_rfl) ?_
    refine wc_ld (b := b1) (off := 3) (some 20) 22 (.int .u64 a) (by kernel_rfl) (Ld.ent1 H 1 rfl (by kernel_rfl) (by rfl) (by intro e; exact absurd e (H.ne 1 0 rfl rfl (by decide)))) ?_
    refine wc_run (T' := [(1, .pointer (some ⟨b1, 0, none⟩)), (4, .pointer (some ⟨b7, 0, none⟩)), (14, .int .u64 k), (16, .int .u64 f), (18, .int .u64 t), (20, .int .u64 a), (21, .pointer (some ⟨b1, 4, none⟩))]) (L2 := (ol [10, 11, 12, 13, 14, 15, 16, 17, 18, 19, 20])) 1 [1, 4, 14, 16, 18, 20, 21] (by kernel_rfl) ?_
    refine wc_ld (b := b1) (off := 4) (some 22) 22 (.int .u64 n) (by kernel_rfl) (Ld.ent1 H 1 rfl (by kernel_rfl) (by rfl) (by intro e; exact absurd e (H.ne 1 0 rfl rfl (by decide)))) ?_
    refine wc_run (T' := [(1, .pointer (some ⟨b1, 0, none⟩)), (4, .pointer (some ⟨b7, 0, none⟩)), (14, .int .u64 k), (16, .int .u64 f), (18, .int .u64 t), (20, .int .u64 a), (22, .int .u64 n), (23, .pointer (some ⟨b7, 0, none⟩))]) (L2 := (ol [12, 13, 14, 15, 16, 17, 18, 19, 20])) 1 [1, 4, 14, 16, 18, 20, 22, 23] (by kernel_rfl) ?_
    refine wc_stD (b := b7) (off := 0) (Tb := 61) (vs := ([.int .u64 k])) (cs' := ([.int .u64 k, .int .u64 0, .int .u64 0, .int .u64 0, .int .u64 0, .int .u64 0, .int .u64 0, .int .u64 0, .int .u64 0, .int .u64 0, .int .u64 0, .int .u64 0, .int .u64 0])) H 0 22 (.int .u64 k) 1 (by kernel_rfl) rfl rfl rfl (by rfl) (by have h := (iv_length .u64 (List.replicate 13 0)).trans List.length_replicate; omega) (by simp [Value.oneCell']) (by rfl) (fun w10 H => ?_)
    dsimp only [List.set] at H
    refine wc_run (T' := [(1, .pointer (some ⟨b1, 0, none⟩)), (4, .pointer (some ⟨b7, 0, none⟩)), (16, .int .u64 f), (18, .int .u64 t), (20, .int .u64 a), (22, .int .u64 n), (24, .pointer (some ⟨b7, 1, none⟩))]) (L2 := (ol [14, 15, 16, 17, 18, 19, 20])) 1 [1, 4, 16, 18, 20, 22, 24] (by kernel_rfl) ?_
    refine wc_stD (b := b7) (off := 1) (Tb := 61) (vs := ([.int .u64 f])) (cs' := ([.int .u64 k, .int .u64 f, .int .u64 0, .int .u64 0, .int .u64 0, .int .u64 0, .int .u64 0, .int .u64 0, .int .u64 0, .int .u64 0, .int .u64 0, .int .u64 0, .int .u64 0])) H 0 22 (.int .u64 f) 1 (by kernel_rfl) rfl rfl rfl (by rfl) (by simp; try omega) (by simp [Value.oneCell']) (by rfl) (fun w11 H => ?_)
    dsimp only [List.set] at H
    refine wc_run (T' := [(1, .pointer (some ⟨b1, 0, none⟩)), (4, .pointer (some ⟨b7, 0, none⟩)), (18, .int .u64 t), (20, .int .u64 a), (22, .int .u64 n), (25, .pointer (some ⟨b7, 2, none⟩))]) (L2 := (ol [16, 17, 18, 19, 20])) 1 [1, 4, 18, 20, 22, 25] (by kernel_rfl) ?_
    refine wc_stD (b := b7) (off := 2) (Tb := 61) (vs := ([.int .u64 t])) (cs' := ([.int .u64 k, .int .u64 f, .int .u64 t, .int .u64 0, .int .u64 0, .int .u64 0, .int .u64 0, .int .u64 0, .int .u64 0, .int .u64 0, .int .u64 0, .int .u64 0, .int .u64 0])) H 0 22 (.int .u64 t) 1 (by kernel_rfl) rfl rfl rfl (by rfl) (by simp; try omega) (by simp [Value.oneCell']) (by rfl) (fun w12 H => ?_)
    dsimp only [List.set] at H
    refine wc_run (T' := [(1, .pointer (some ⟨b1, 0, none⟩)), (4, .pointer (some ⟨b7, 0, none⟩)), (20, .int .u64 a), (22, .int .u64 n), (26, .pointer (some ⟨b7, 3, none⟩))]) (L2 := (ol [18, 19, 20])) 1 [1, 4, 20, 22, 26] (by kernel_rfl) ?_
    refine wc_stD (b := b7) (off := 3) (Tb := 61) (vs := ([.int .u64 a])) (cs' := ([.int .u64 k, .int .u64 f, .int .u64 t, .int .u64 a, .int .u64 0, .int .u64 0, .int .u64 0, .int .u64 0, .int .u64 0, .int .u64 0, .int .u64 0, .int .u64 0, .int .u64 0])) H 0 22 (.int .u64 a) 1 (by kernel_rfl) rfl rfl rfl (by rfl) (by simp; try omega) (by simp [Value.oneCell']) (by rfl) (fun w13 H => ?_)
    dsimp only [List.set] at H
    refine wc_run (T' := [(1, .pointer (some ⟨b1, 0, none⟩)), (4, .pointer (some ⟨b7, 0, none⟩)), (22, .int .u64 n), (27, .pointer (some ⟨b7, 4, none⟩))]) (L2 := (ol [20])) 1 [1, 4, 22, 27] (by kernel_rfl) ?_
    refine wc_stD (b := b7) (off := 4) (Tb := 61) (vs := ([.int .u64 n])) (cs' := ([.int .u64 k, .int .u64 f, .int .u64 t, .int .u64 a, .int .u64 n, .int .u64 0, .int .u64 0, .int .u64 0, .int .u64 0, .int .u64 0, .int .u64 0, .int .u64 0, .int .u64 0])) H 0 22 (.int .u64 n) 1 (by kernel_rfl) rfl rfl rfl (by rfl) (by simp; try omega) (by simp [Value.oneCell']) (by rfl) (fun w14 H => ?_)
    dsimp only [List.set] at H
    refine wc_nil rfl ?_
    refine n_np ?_
    refine n_sq ?_
    refine wn_cut (fun ((bc15, bc16) : Nat × Nat) => [(4, .pointer (some ⟨b7, 0, none⟩)), (5, .pointer (some ⟨bc15, 0, none⟩)), (6, .pointer (some ⟨bc16, 0, none⟩))]) (fun ((bc15, bc16) : Nat × Nat) w' => Hp no w w' [.bk bc16 (row (iv .u64 (wdF 4 32 y)) 73), .bk bc15 (row (iv .u64 (wdF 4 32 x)) 73), .bk b7 (row ([.int .u64 k, .int .u64 f, .int .u64 t, .int .u64 a, .int .u64 n, .int .u64 0, .int .u64 0, .int .u64 0, .int .u64 0, .int .u64 0, .int .u64 0, .int .u64 0, .int .u64 0]) 61), .bk b1 (row ([.int .u8 k, .int .u64 f, .int .u64 t, .int .u64 a, .int .u64 n] ++ ((iv .u8 x) ++ (iv .u8 y))) 49)] ∧ (wdF 4 32 x).length = 4 ∧ (wdF 4 32 y).length = 4) (by kernel_rfl) ?_ ?_
    · refine wn_regD [] (ob [0, 1, 3, 4] (ob [2] (ob [5] (ol [6, 7, 8, 9]) (ol [7, 6, 8, 9])) (.br (ob [6] (ol [5, 7, 8, 9]) (ol [7, 5, 8, 9])) (ob [7] (ol [5, 6, 8, 9]) (ol [6, 5, 8, 9])))) (.br (ob [6] (ob [2] (ol [5, 7, 8, 9]) (ol [7, 5, 8, 9])) (ol [7, 2, 5, 8, 9])) (ob [7] (ob [2] (ol [5, 6, 8, 9]) (ol [6, 5, 8, 9])) (ol [6, 2, 5, 8, 9])))) (by kernel_rfl) H (fun w17 H => ?_)
      refine wc_run (T' := [(1, .pointer (some ⟨b1, 0, none⟩)), (4, .pointer (some ⟨b7, 0, none⟩)), (28, .pointer (some ⟨b1, 5, none⟩))]) (L2 := (ob [1, 3, 4] (ob [2] (ob [5] (ol [6, 7, 8, 9]) (ol [7, 6, 8, 9])) (.br (ob [6] (ol [5, 7, 8, 9]) (ol [7, 5, 8, 9])) (ob [7] (ol [5, 6, 8, 9]) (ol [6, 5, 8, 9])))) (.br (ob [6] (ob [2] (ol [5, 7, 8, 9]) (ol [7, 5, 8, 9])) (ol [7, 2, 5, 8, 9])) (ob [7] (ob [2] (ol [5, 6, 8, 9]) (ol [6, 5, 8, 9])) (ol [6, 2, 5, 8, 9]))))) 1 [1, 4, 28] (by kernel_rfl) ?_
      refine wc_ld (b := b1) (off := 5) (some 29) 47 (.agg (iv .u8 x).toArray) (by kernel_rfl) (Ld.entA H 1 (n := 32) rfl (by kernel_rfl) (by kernel_rfl) (by have h : ([.int .u8 k, .int .u64 f, .int .u64 t, .int .u64 a, .int .u64 n] ++ ((iv .u8 x) ++ (iv .u8 y)) : List Value).length = 69 := (lenA (rfl : ([.int .u8 k, .int .u64 f, .int .u64 t, .int .u64 a, .int .u64 n] : List Value).length = 5) (lenA ((iv_length .u8 x).trans hx) ((iv_length .u8 y).trans hy))); omega) (by first | rfl | (simp [List.drop_append, List.take_append, iv_length, *]; done) | (simp [List.drop_append, List.take_append, iv_length, *]; exact List.take_of_length_le (by simp [iv_length, *])))) ?_
      refine wc_run (T' := [(4, .pointer (some ⟨b7, 0, none⟩)), (29, .agg (iv .u8 x).toArray), (31, .pointer (some ⟨b1, 37, none⟩))]) (L2 := (ob [4] (ob [2] (ob [5] (ol [6, 7, 8, 9]) (ol [7, 6, 8, 9])) (.br (ob [6] (ol [5, 7, 8, 9]) (ol [7, 5, 8, 9])) (ob [7] (ol [5, 6, 8, 9]) (ol [6, 5, 8, 9])))) (.br (ob [6] (ob [2] (ol [5, 7, 8, 9]) (ol [7, 5, 8, 9])) (ol [7, 2, 5, 8, 9])) (ob [7] (ob [2] (ol [5, 6, 8, 9]) (ol [6, 5, 8, 9])) (ol [6, 2, 5, 8, 9]))))) 1 [4, 29, 31] (by kernel_rfl) ?_
      refine wc_ld (b := b1) (off := 37) (some 32) 47 (.agg (iv .u8 y).toArray) (by kernel_rfl) (Ld.entA H 1 (n := 32) rfl (by kernel_rfl) (by kernel_rfl) (by have h : ([.int .u8 k, .int .u64 f, .int .u64 t, .int .u64 a, .int .u64 n] ++ ((iv .u8 x) ++ (iv .u8 y)) : List Value).length = 69 := (lenA (rfl : ([.int .u8 k, .int .u64 f, .int .u64 t, .int .u64 a, .int .u64 n] : List Value).length = 5) (lenA ((iv_length .u8 x).trans hx) ((iv_length .u8 y).trans hy))); omega) (by first | rfl | (simp [List.drop_append, List.take_append, iv_length, *]; done) | (simp [List.drop_append, List.take_append, iv_length, *]; exact List.take_of_length_le (by simp [iv_length, *])))) ?_
      refine wc_br rfl ?_ ?_
      · refine wc_call (some 30) (by kernel_rfl) (sha_Words w17 x hx hxb) ?_
        rintro _ w18 ⟨rfl, H1, hf19⟩
        refine ⟨_, rfl, fun _ => H1.keep, ?_⟩
        replace H := H.call H1
        simp only [List.nil_append] at H
        refine wc_br rfl ?_ ?_
        · refine wc_call (some 33) (by kernel_rfl) (sha_Words w18 y hy hyb) ?_
          rintro _ w20 ⟨rfl, H1, hf21⟩
          refine ⟨_, rfl, fun _ => H1.keep, ?_⟩
          replace H := H.call H1
          simp only [List.nil_append] at H
          refine wc_br rfl ?_ ?_
          · refine wc_new H (some 5) (row (iv .u64 (List.replicate 4 0)) 73) (fun r => .pointer (some ⟨r, 0, none⟩)) (by kernel_rfl) (fun b22 w23 H => ?_)
            refine wc_new H (some 6) (row (iv .u64 (List.replicate 4 0)) 73) (fun r => .pointer (some ⟨r, 0, none⟩)) (by kernel_rfl) (fun b24 w25 H => ?_)
            refine wc_st (b := b22) (off := 0) (Tb := 73) (vs := (iv .u64 (wdF 4 32 x))) (cs' := (iv .u64 (wdF 4 32 x))) H 1 73 (.agg (iv .u64 (wdF 4 32 x)).toArray) 4 (by kernel_rfl) rfl rfl (by exact (iv_length .u64 (wdF 4 32 x)).trans hf19) (by have h := (iv_length .u64 (List.replicate 4 0)).trans List.length_replicate; omega) (by exact iv_flat _ _) (by exact blit_all _ _ ((show (iv .u64 (wdF 4 32 x) : List Value).length = 4 from (iv_length .u64 (wdF 4 32 x)).trans hf19).trans (show (iv .u64 (List.replicate 4 0) : List Value).length = 4 from (iv_length .u64 (List.replicate 4 0)).trans List.length_replicate).symm)) (fun w26 H => ?_)
            dsimp only [List.set] at H
            refine wc_st (b := b24) (off := 0) (Tb := 73) (vs := (iv .u64 (wdF 4 32 y))) (cs' := (iv .u64 (wdF 4 32 y))) H 0 73 (.agg (iv .u64 (wdF 4 32 y)).toArray) 4 (by kernel_rfl) rfl rfl (by exact (iv_length .u64 (wdF 4 32 y)).trans hf21) (by have h := (iv_length .u64 (List.replicate 4 0)).trans List.length_replicate; omega) (by exact iv_flat _ _) (by exact blit_all _ _ ((show (iv .u64 (wdF 4 32 y) : List Value).length = 4 from (iv_length .u64 (wdF 4 32 y)).trans hf21).trans (show (iv .u64 (List.replicate 4 0) : List Value).length = 4 from (iv_length .u64 (List.replicate 4 0)).trans List.length_replicate).symm)) (fun w27 H => ?_)
            dsimp only [List.set] at H
            refine wc_nil rfl ?_
            refine n_np ?_
            exact cut_end (b22, b24) [4, 5, 6] (by kernel_rfl) ⟨H, hf19, hf21⟩
          · refine wc_new H (some 6) (row (iv .u64 (List.replicate 4 0)) 73) (fun r => .pointer (some ⟨r, 0, none⟩)) (by kernel_rfl) (fun b28 w29 H => ?_)
            refine wc_new H (some 5) (row (iv .u64 (List.replicate 4 0)) 73) (fun r => .pointer (some ⟨r, 0, none⟩)) (by kernel_rfl) (fun b30 w31 H => ?_)
            refine wc_st (b := b30) (off := 0) (Tb := 73) (vs := (iv .u64 (wdF 4 32 x))) (cs' := (iv .u64 (wdF 4 32 x))) H 0 73 (.agg (iv .u64 (wdF 4 32 x)).toArray) 4 (by kernel_rfl) rfl rfl (by exact (iv_length .u64 (wdF 4 32 x)).trans hf19) (by have h := (iv_length .u64 (List.replicate 4 0)).trans List.length_replicate; omega) (by exact iv_flat _ _) (by exact blit_all _ _ ((show (iv .u64 (wdF 4 32 x) : List Value).length = 4 from (iv_length .u64 (wdF 4 32 x)).trans hf19).trans (show (iv .u64 (List.replicate 4 0) : List Value).length = 4 from (iv_length .u64 (List.replicate 4 0)).trans List.length_replicate).symm)) (fun w32 H => ?_)
            dsimp only [List.set] at H
            refine wc_st (b := b28) (off := 0) (Tb := 73) (vs := (iv .u64 (wdF 4 32 y))) (cs' := (iv .u64 (wdF 4 32 y))) H 1 73 (.agg (iv .u64 (wdF 4 32 y)).toArray) 4 (by kernel_rfl) rfl rfl (by exact (iv_length .u64 (wdF 4 32 y)).trans hf21) (by have h := (iv_length .u64 (List.replicate 4 0)).trans List.length_replicate; omega) (by exact iv_flat _ _) (by exact blit_all _ _ ((show (iv .u64 (wdF 4 32 y) : List Value).length = 4 from (iv_length .u64 (wdF 4 32 y)).trans hf21).trans (show (iv .u64 (List.replicate 4 0) : List Value).length = 4 from (iv_length .u64 (List.replicate 4 0)).trans List.length_replicate).symm)) (fun w33 H => ?_)
            dsimp only [List.set] at H
            refine wc_nil rfl ?_
            refine n_np ?_
            exact cut_end (b30, b28) [4, 5, 6] (by kernel_rfl) ⟨H.sel [1, 0, 2, 3] (by decide) rfl, hf19, hf21⟩
        · refine wc_br rfl ?_ ?_
          · refine wc_new H (some 5) (row (iv .u64 (List.replicate 4 0)) 73) (fun r => .pointer (some ⟨r, 0, none⟩)) (by kernel_rfl) (fun b34 w35 H => ?_)
            refine wc_br rfl ?_ ?_
            · refine wc_call (some 33) (by kernel_rfl) (sha_Words w35 y hy hyb) ?_
              rintro _ w36 ⟨rfl, H1, hf37⟩
              refine ⟨_, rfl, fun _ => H1.keep, ?_⟩
              replace H := H.call H1
              simp only [List.nil_append] at H
              refine wc_new H (some 6) (row (iv .u64 (List.replicate 4 0)) 73) (fun r => .pointer (some ⟨r, 0, none⟩)) (by kernel_rfl) (fun b38 w39 H => ?_)
              refine wc_st (b := b34) (off := 0) (Tb := 73) (vs := (iv .u64 (wdF 4 32 x))) (cs' := (iv .u64 (wdF 4 32 x))) H 1 73 (.agg (iv .u64 (wdF 4 32 x)).toArray) 4 (by kernel_rfl) rfl rfl (by exact (iv_length .u64 (wdF 4 32 x)).trans hf19) (by have h := (iv_length .u64 (List.replicate 4 0)).trans List.length_replicate; omega) (by exact iv_flat _ _) (by exact blit_all _ _ ((show (iv .u64 (wdF 4 32 x) : List Value).length = 4 from (iv_length .u64 (wdF 4 32 x)).trans hf19).trans (show (iv .u64 (List.replicate 4 0) : List Value).length = 4 from (iv_length .u64 (List.replicate 4 0)).trans List.length_replicate).symm)) (fun w40 H => ?_)
              dsimp only [List.set] at H
              refine wc_st (b := b38) (off := 0) (Tb := 73) (vs := (iv .u64 (wdF 4 32 y))) (cs' := (iv .u64 (wdF 4 32 y))) H 0 73 (.agg (iv .u64 (wdF 4 32 y)).toArray) 4 (by kernel_rfl) rfl rfl (by exact (iv_length .u64 (wdF 4 32 y)).trans hf37) (by have h := (iv_length .u64 (List.replicate 4 0)).trans List.length_replicate; omega) (by exact iv_flat _ _) (by exact blit_all _ _ ((show (iv .u64 (wdF 4 32 y) : List Value).length = 4 from (iv_length .u64 (wdF 4 32 y)).trans hf37).trans (show (iv .u64 (List.replicate 4 0) : List Value).length = 4 from (iv_length .u64 (List.replicate 4 0)).trans List.length_replicate).symm)) (fun w41 H => ?_)
              dsimp only [List.set] at H
              refine wc_nil rfl ?_
              refine n_np ?_
              exact cut_end (b34, b38) [4, 5, 6] (by kernel_rfl) ⟨H, hf19, hf37⟩
            · refine wc_new H (some 6) (row (iv .u64 (List.replicate 4 0)) 73) (fun r => .pointer (some ⟨r, 0, none⟩)) (by kernel_rfl) (fun b42 w43 H => ?_)
              refine wc_call (some 33) (by kernel_rfl) (sha_Words w43 y hy hyb) ?_
              rintro _ w44 ⟨rfl, H1, hf45⟩
              refine ⟨_, rfl, fun _ => H1.keep, ?_⟩
              replace H := H.call H1
              simp only [List.nil_append] at H
              refine wc_st (b := b34) (off := 0) (Tb := 73) (vs := (iv .u64 (wdF 4 32 x))) (cs' := (iv .u64 (wdF 4 32 x))) H 1 73 (.agg (iv .u64 (wdF 4 32 x)).toArray) 4 (by kernel_rfl) rfl rfl (by exact (iv_length .u64 (wdF 4 32 x)).trans hf19) (by have h := (iv_length .u64 (List.replicate 4 0)).trans List.length_replicate; omega) (by exact iv_flat _ _) (by exact blit_all _ _ ((show (iv .u64 (wdF 4 32 x) : List Value).length = 4 from (iv_length .u64 (wdF 4 32 x)).trans hf19).trans (show (iv .u64 (List.replicate 4 0) : List Value).length = 4 from (iv_length .u64 (List.replicate 4 0)).trans List.length_replicate).symm)) (fun w46 H => ?_)
              dsimp only [List.set] at H
              refine wc_st (b := b42) (off := 0) (Tb := 73) (vs := (iv .u64 (wdF 4 32 y))) (cs' := (iv .u64 (wdF 4 32 y))) H 0 73 (.agg (iv .u64 (wdF 4 32 y)).toArray) 4 (by kernel_rfl) rfl rfl (by exact (iv_length .u64 (wdF 4 32 y)).trans hf45) (by have h := (iv_length .u64 (List.replicate 4 0)).trans List.length_replicate; omega) (by exact iv_flat _ _) (by exact blit_all _ _ ((show (iv .u64 (wdF 4 32 y) : List Value).length = 4 from (iv_length .u64 (wdF 4 32 y)).trans hf45).trans (show (iv .u64 (List.replicate 4 0) : List Value).length = 4 from (iv_length .u64 (List.replicate 4 0)).trans List.length_replicate).symm)) (fun w47 H => ?_)
              dsimp only [List.set] at H
              refine wc_nil rfl ?_
              refine n_np ?_
              exact cut_end (b34, b42) [4, 5, 6] (by kernel_rfl) ⟨H, hf19, hf45⟩
          · refine wc_new H (some 6) (row (iv .u64 (List.replicate 4 0)) 73) (fun r => .pointer (some ⟨r, 0, none⟩)) (by kernel_rfl) (fun b48 w49 H => ?_)
            refine wc_br rfl ?_ ?_
            · refine wc_call (some 33) (by kernel_rfl) (sha_Words w49 y hy hyb) ?_
              rintro _ w50 ⟨rfl, H1, hf51⟩
              refine ⟨_, rfl, fun _ => H1.keep, ?_⟩
              replace H := H.call H1
              simp only [List.nil_append] at H
              refine wc_new H (some 5) (row (iv .u64 (List.replicate 4 0)) 73) (fun r => .pointer (some ⟨r, 0, none⟩)) (by kernel_rfl) (fun b52 w53 H => ?_)
              refine wc_st (b := b52) (off := 0) (Tb := 73) (vs := (iv .u64 (wdF 4 32 x))) (cs' := (iv .u64 (wdF 4 32 x))) H 0 73 (.agg (iv .u64 (wdF 4 32 x)).toArray) 4 (by kernel_rfl) rfl rfl (by exact (iv_length .u64 (wdF 4 32 x)).trans hf19) (by have h := (iv_length .u64 (List.replicate 4 0)).trans List.length_replicate; omega) (by exact iv_flat _ _) (by exact blit_all _ _ ((show (iv .u64 (wdF 4 32 x) : List Value).length = 4 from (iv_length .u64 (wdF 4 32 x)).trans hf19).trans (show (iv .u64 (List.replicate 4 0) : List Value).length = 4 from (iv_length .u64 (List.replicate 4 0)).trans List.length_replicate).symm)) (fun w54 H => ?_)
              dsimp only [List.set] at H
              refine wc_st (b := b48) (off := 0) (Tb := 73) (vs := (iv .u64 (wdF 4 32 y))) (cs' := (iv .u64 (wdF 4 32 y))) H 1 73 (.agg (iv .u64 (wdF 4 32 y)).toArray) 4 (by kernel_rfl) rfl rfl (by exact (iv_length .u64 (wdF 4 32 y)).trans hf51) (by have h := (iv_length .u64 (List.replicate 4 0)).trans List.length_replicate; omega) (by exact iv_flat _ _) (by exact blit_all _ _ ((show (iv .u64 (wdF 4 32 y) : List Value).length = 4 from (iv_length .u64 (wdF 4 32 y)).trans hf51).trans (show (iv .u64 (List.replicate 4 0) : List Value).length = 4 from (iv_length .u64 (List.replicate 4 0)).trans List.length_replicate).symm)) (fun w55 H => ?_)
              dsimp only [List.set] at H
              refine wc_nil rfl ?_
              refine n_np ?_
              exact cut_end (b52, b48) [4, 5, 6] (by kernel_rfl) ⟨H.sel [1, 0, 2, 3] (by decide) rfl, hf19, hf51⟩
            · refine wc_new H (some 5) (row (iv .u64 (List.replicate 4 0)) 73) (fun r => .pointer (some ⟨r, 0, none⟩)) (by kernel_rfl) (fun b56 w57 H => ?_)
              refine wc_call (some 33) (by kernel_rfl) (sha_Words w57 y hy hyb) ?_
              rintro _ w58 ⟨rfl, H1, hf59⟩
              refine ⟨_, rfl, fun _ => H1.keep, ?_⟩
              replace H := H.call H1
              simp only [List.nil_append] at H
              refine wc_st (b := b56) (off := 0) (Tb := 73) (vs := (iv .u64 (wdF 4 32 x))) (cs' := (iv .u64 (wdF 4 32 x))) H 0 73 (.agg (iv .u64 (wdF 4 32 x)).toArray) 4 (by kernel_rfl) rfl rfl (by exact (iv_length .u64 (wdF 4 32 x)).trans hf19) (by have h := (iv_length .u64 (List.replicate 4 0)).trans List.length_replicate; omega) (by exact iv_flat _ _) (by exact blit_all _ _ ((show (iv .u64 (wdF 4 32 x) : List Value).length = 4 from (iv_length .u64 (wdF 4 32 x)).trans hf19).trans (show (iv .u64 (List.replicate 4 0) : List Value).length = 4 from (iv_length .u64 (List.replicate 4 0)).trans List.length_replicate).symm)) (fun w60 H => ?_)
              dsimp only [List.set] at H
              refine wc_st (b := b48) (off := 0) (Tb := 73) (vs := (iv .u64 (wdF 4 32 y))) (cs' := (iv .u64 (wdF 4 32 y))) H 1 73 (.agg (iv .u64 (wdF 4 32 y)).toArray) 4 (by kernel_rfl) rfl rfl (by exact (iv_length .u64 (wdF 4 32 y)).trans hf59) (by have h := (iv_length .u64 (List.replicate 4 0)).trans List.length_replicate; omega) (by exact iv_flat _ _) (by exact blit_all _ _ ((show (iv .u64 (wdF 4 32 y) : List Value).length = 4 from (iv_length .u64 (wdF 4 32 y)).trans hf59).trans (show (iv .u64 (List.replicate 4 0) : List Value).length = 4 from (iv_length .u64 (List.replicate 4 0)).trans List.length_replicate).symm)) (fun w61 H => ?_)
              dsimp only [List.set] at H
              refine wc_nil rfl ?_
              refine n_np ?_
              exact cut_end (b56, b48) [4, 5, 6] (by kernel_rfl) ⟨H.sel [1, 0, 2, 3] (by decide) rfl, hf19, hf59⟩
      · refine wc_br rfl ?_ ?_
        · refine wc_new H (some 5) (row (iv .u64 (List.replicate 4 0)) 73) (fun r => .pointer (some ⟨r, 0, none⟩)) (by kernel_rfl) (fun b62 w63 H => ?_)
          refine wc_br rfl ?_ ?_
          · refine wc_call (some 30) (by kernel_rfl) (sha_Words w63 x hx hxb) ?_
            rintro _ w64 ⟨rfl, H1, hf65⟩
            refine ⟨_, rfl, fun _ => H1.keep, ?_⟩
            replace H := H.call H1
            simp only [List.nil_append] at H
            refine wc_br rfl ?_ ?_
            · refine wc_call (some 33) (by kernel_rfl) (sha_Words w64 y hy hyb) ?_
              rintro _ w66 ⟨rfl, H1, hf67⟩
              refine ⟨_, rfl, fun _ => H1.keep, ?_⟩
              replace H := H.call H1
              simp only [List.nil_append] at H
              refine wc_new H (some 6) (row (iv .u64 (List.replicate 4 0)) 73) (fun r => .pointer (some ⟨r, 0, none⟩)) (by kernel_rfl) (fun b68 w69 H => ?_)
              refine wc_st (b := b62) (off := 0) (Tb := 73) (vs := (iv .u64 (wdF 4 32 x))) (cs' := (iv .u64 (wdF 4 32 x))) H 1 73 (.agg (iv .u64 (wdF 4 32 x)).toArray) 4 (by kernel_rfl) rfl rfl (by exact (iv_length .u64 (wdF 4 32 x)).trans hf65) (by have h := (iv_length .u64 (List.replicate 4 0)).trans List.length_replicate; omega) (by exact iv_flat _ _) (by exact blit_all _ _ ((show (iv .u64 (wdF 4 32 x) : List Value).length = 4 from (iv_length .u64 (wdF 4 32 x)).trans hf65).trans (show (iv .u64 (List.replicate 4 0) : List Value).length = 4 from (iv_length .u64 (List.replicate 4 0)).trans List.length_replicate).symm)) (fun w70 H => ?_)
              dsimp only [List.set] at H
              refine wc_st (b := b68) (off := 0) (Tb := 73) (vs := (iv .u64 (wdF 4 32 y))) (cs' := (iv .u64 (wdF 4 32 y))) H 0 73 (.agg (iv .u64 (wdF 4 32 y)).toArray) 4 (by kernel_rfl) rfl rfl (by exact (iv_length .u64 (wdF 4 32 y)).trans hf67) (by have h := (iv_length .u64 (List.replicate 4 0)).trans List.length_replicate; omega) (by exact iv_flat _ _) (by exact blit_all _ _ ((show (iv .u64 (wdF 4 32 y) : List Value).length = 4 from (iv_length .u64 (wdF 4 32 y)).trans hf67).trans (show (iv .u64 (List.replicate 4 0) : List Value).length = 4 from (iv_length .u64 (List.replicate 4 0)).trans List.length_replicate).symm)) (fun w71 H => ?_)
              dsimp only [List.set] at H
              refine wc_nil rfl ?_
              refine n_np ?_
              exact cut_end (b62, b68) [4, 5, 6] (by kernel_rfl) ⟨H, hf65, hf67⟩
            · refine wc_new H (some 6) (row (iv .u64 (List.replicate 4 0)) 73) (fun r => .pointer (some ⟨r, 0, none⟩)) (by kernel_rfl) (fun b72 w73 H => ?_)
              refine wc_call (some 33) (by kernel_rfl) (sha_Words w73 y hy hyb) ?_
              rintro _ w74 ⟨rfl, H1, hf75⟩
              refine ⟨_, rfl, fun _ => H1.keep, ?_⟩
              replace H := H.call H1
              simp only [List.nil_append] at H
              refine wc_st (b := b62) (off := 0) (Tb := 73) (vs := (iv .u64 (wdF 4 32 x))) (cs' := (iv .u64 (wdF 4 32 x))) H 1 73 (.agg (iv .u64 (wdF 4 32 x)).toArray) 4 (by kernel_rfl) rfl rfl (by exact (iv_length .u64 (wdF 4 32 x)).trans hf65) (by have h := (iv_length .u64 (List.replicate 4 0)).trans List.length_replicate; omega) (by exact iv_flat _ _) (by exact blit_all _ _ ((show (iv .u64 (wdF 4 32 x) : List Value).length = 4 from (iv_length .u64 (wdF 4 32 x)).trans hf65).trans (show (iv .u64 (List.replicate 4 0) : List Value).length = 4 from (iv_length .u64 (List.replicate 4 0)).trans List.length_replicate).symm)) (fun w76 H => ?_)
              dsimp only [List.set] at H
              refine wc_st (b := b72) (off := 0) (Tb := 73) (vs := (iv .u64 (wdF 4 32 y))) (cs' := (iv .u64 (wdF 4 32 y))) H 0 73 (.agg (iv .u64 (wdF 4 32 y)).toArray) 4 (by kernel_rfl) rfl rfl (by exact (iv_length .u64 (wdF 4 32 y)).trans hf75) (by have h := (iv_length .u64 (List.replicate 4 0)).trans List.length_replicate; omega) (by exact iv_flat _ _) (by exact blit_all _ _ ((show (iv .u64 (wdF 4 32 y) : List Value).length = 4 from (iv_length .u64 (wdF 4 32 y)).trans hf75).trans (show (iv .u64 (List.replicate 4 0) : List Value).length = 4 from (iv_length .u64 (List.replicate 4 0)).trans List.length_replicate).symm)) (fun w77 H => ?_)
              dsimp only [List.set] at H
              refine wc_nil rfl ?_
              refine n_np ?_
              exact cut_end (b62, b72) [4, 5, 6] (by kernel_rfl) ⟨H, hf65, hf75⟩
          · refine wc_new H (some 6) (row (iv .u64 (List.replicate 4 0)) 73) (fun r => .pointer (some ⟨r, 0, none⟩)) (by kernel_rfl) (fun b78 w79 H => ?_)
            refine wc_call (some 30) (by kernel_rfl) (sha_Words w79 x hx hxb) ?_
            rintro _ w80 ⟨rfl, H1, hf81⟩
            refine ⟨_, rfl, fun _ => H1.keep, ?_⟩
            replace H := H.call H1
            simp only [List.nil_append] at H
            refine wc_call (some 33) (by kernel_rfl) (sha_Words w80 y hy hyb) ?_
            rintro _ w82 ⟨rfl, H1, hf83⟩
            refine ⟨_, rfl, fun _ => H1.keep, ?_⟩
            replace H := H.call H1
            simp only [List.nil_append] at H
            refine wc_st (b := b62) (off := 0) (Tb := 73) (vs := (iv .u64 (wdF 4 32 x))) (cs' := (iv .u64 (wdF 4 32 x))) H 1 73 (.agg (iv .u64 (wdF 4 32 x)).toArray) 4 (by kernel_rfl) rfl rfl (by exact (iv_length .u64 (wdF 4 32 x)).trans hf81) (by have h := (iv_length .u64 (List.replicate 4 0)).trans List.length_replicate; omega) (by exact iv_flat _ _) (by exact blit_all _ _ ((show (iv .u64 (wdF 4 32 x) : List Value).length = 4 from (iv_length .u64 (wdF 4 32 x)).trans hf81).trans (show (iv .u64 (List.replicate 4 0) : List Value).length = 4 from (iv_length .u64 (List.replicate 4 0)).trans List.length_replicate).symm)) (fun w84 H => ?_)
            dsimp only [List.set] at H
            refine wc_st (b := b78) (off := 0) (Tb := 73) (vs := (iv .u64 (wdF 4 32 y))) (cs' := (iv .u64 (wdF 4 32 y))) H 0 73 (.agg (iv .u64 (wdF 4 32 y)).toArray) 4 (by kernel_rfl) rfl rfl (by exact (iv_length .u64 (wdF 4 32 y)).trans hf83) (by have h := (iv_length .u64 (List.replicate 4 0)).trans List.length_replicate; omega) (by exact iv_flat _ _) (by exact blit_all _ _ ((show (iv .u64 (wdF 4 32 y) : List Value).length = 4 from (iv_length .u64 (wdF 4 32 y)).trans hf83).trans (show (iv .u64 (List.replicate 4 0) : List Value).length = 4 from (iv_length .u64 (List.replicate 4 0)).trans List.length_replicate).symm)) (fun w85 H => ?_)
            dsimp only [List.set] at H
            refine wc_nil rfl ?_
            refine n_np ?_
            exact cut_end (b62, b78) [4, 5, 6] (by kernel_rfl) ⟨H, hf81, hf83⟩
        · refine wc_new H (some 6) (row (iv .u64 (List.replicate 4 0)) 73) (fun r => .pointer (some ⟨r, 0, none⟩)) (by kernel_rfl) (fun b86 w87 H => ?_)
          refine wc_br rfl ?_ ?_
          · refine wc_call (some 30) (by kernel_rfl) (sha_Words w87 x hx hxb) ?_
            rintro _ w88 ⟨rfl, H1, hf89⟩
            refine ⟨_, rfl, fun _ => H1.keep, ?_⟩
            replace H := H.call H1
            simp only [List.nil_append] at H
            refine wc_br rfl ?_ ?_
            · refine wc_call (some 33) (by kernel_rfl) (sha_Words w88 y hy hyb) ?_
              rintro _ w90 ⟨rfl, H1, hf91⟩
              refine ⟨_, rfl, fun _ => H1.keep, ?_⟩
              replace H := H.call H1
              simp only [List.nil_append] at H
              refine wc_new H (some 5) (row (iv .u64 (List.replicate 4 0)) 73) (fun r => .pointer (some ⟨r, 0, none⟩)) (by kernel_rfl) (fun b92 w93 H => ?_)
              refine wc_st (b := b92) (off := 0) (Tb := 73) (vs := (iv .u64 (wdF 4 32 x))) (cs' := (iv .u64 (wdF 4 32 x))) H 0 73 (.agg (iv .u64 (wdF 4 32 x)).toArray) 4 (by kernel_rfl) rfl rfl (by exact (iv_length .u64 (wdF 4 32 x)).trans hf89) (by have h := (iv_length .u64 (List.replicate 4 0)).trans List.length_replicate; omega) (by exact iv_flat _ _) (by exact blit_all _ _ ((show (iv .u64 (wdF 4 32 x) : List Value).length = 4 from (iv_length .u64 (wdF 4 32 x)).trans hf89).trans (show (iv .u64 (List.replicate 4 0) : List Value).length = 4 from (iv_length .u64 (List.replicate 4 0)).trans List.length_replicate).symm)) (fun w94 H => ?_)
              dsimp only [List.set] at H
              refine wc_st (b := b86) (off := 0) (Tb := 73) (vs := (iv .u64 (wdF 4 32 y))) (cs' := (iv .u64 (wdF 4 32 y))) H 1 73 (.agg (iv .u64 (wdF 4 32 y)).toArray) 4 (by kernel_rfl) rfl rfl (by exact (iv_length .u64 (wdF 4 32 y)).trans hf91) (by have h := (iv_length .u64 (List.replicate 4 0)).trans List.length_replicate; omega) (by exact iv_flat _ _) (by exact blit_all _ _ ((show (iv .u64 (wdF 4 32 y) : List Value).length = 4 from (iv_length .u64 (wdF 4 32 y)).trans hf91).trans (show (iv .u64 (List.replicate 4 0) : List Value).length = 4 from (iv_length .u64 (List.replicate 4 0)).trans List.length_replicate).symm)) (fun w95 H => ?_)
              dsimp only [List.set] at H
              refine wc_nil rfl ?_
              refine n_np ?_
              exact cut_end (b92, b86) [4, 5, 6] (by kernel_rfl) ⟨H.sel [1, 0, 2, 3] (by decide) rfl, hf89, hf91⟩
            · refine wc_new H (some 5) (row (iv .u64 (List.replicate 4 0)) 73) (fun r => .pointer (some ⟨r, 0, none⟩)) (by kernel_rfl) (fun b96 w97 H => ?_)
              refine wc_call (some 33) (by kernel_rfl) (sha_Words w97 y hy hyb) ?_
              rintro _ w98 ⟨rfl, H1, hf99⟩
              refine ⟨_, rfl, fun _ => H1.keep, ?_⟩
              replace H := H.call H1
              simp only [List.nil_append] at H
              refine wc_st (b := b96) (off := 0) (Tb := 73) (vs := (iv .u64 (wdF 4 32 x))) (cs' := (iv .u64 (wdF 4 32 x))) H 0 73 (.agg (iv .u64 (wdF 4 32 x)).toArray) 4 (by kernel_rfl) rfl rfl (by exact (iv_length .u64 (wdF 4 32 x)).trans hf89) (by have h := (iv_length .u64 (List.replicate 4 0)).trans List.length_replicate; omega) (by exact iv_flat _ _) (by exact blit_all _ _ ((show (iv .u64 (wdF 4 32 x) : List Value).length = 4 from (iv_length .u64 (wdF 4 32 x)).trans hf89).trans (show (iv .u64 (List.replicate 4 0) : List Value).length = 4 from (iv_length .u64 (List.replicate 4 0)).trans List.length_replicate).symm)) (fun w100 H => ?_)
              dsimp only [List.set] at H
              refine wc_st (b := b86) (off := 0) (Tb := 73) (vs := (iv .u64 (wdF 4 32 y))) (cs' := (iv .u64 (wdF 4 32 y))) H 1 73 (.agg (iv .u64 (wdF 4 32 y)).toArray) 4 (by kernel_rfl) rfl rfl (by exact (iv_length .u64 (wdF 4 32 y)).trans hf99) (by have h := (iv_length .u64 (List.replicate 4 0)).trans List.length_replicate; omega) (by exact iv_flat _ _) (by exact blit_all _ _ ((show (iv .u64 (wdF 4 32 y) : List Value).length = 4 from (iv_length .u64 (wdF 4 32 y)).trans hf99).trans (show (iv .u64 (List.replicate 4 0) : List Value).length = 4 from (iv_length .u64 (List.replicate 4 0)).trans List.length_replicate).symm)) (fun w101 H => ?_)
              dsimp only [List.set] at H
              refine wc_nil rfl ?_
              refine n_np ?_
              exact cut_end (b96, b86) [4, 5, 6] (by kernel_rfl) ⟨H.sel [1, 0, 2, 3] (by decide) rfl, hf89, hf99⟩
          · refine wc_new H (some 5) (row (iv .u64 (List.replicate 4 0)) 73) (fun r => .pointer (some ⟨r, 0, none⟩)) (by kernel_rfl) (fun b102 w103 H => ?_)
            refine wc_call (some 30) (by kernel_rfl) (sha_Words w103 x hx hxb) ?_
            rintro _ w104 ⟨rfl, H1, hf105⟩
            refine ⟨_, rfl, fun _ => H1.keep, ?_⟩
            replace H := H.call H1
            simp only [List.nil_append] at H
            refine wc_call (some 33) (by kernel_rfl) (sha_Words w104 y hy hyb) ?_
            rintro _ w106 ⟨rfl, H1, hf107⟩
            refine ⟨_, rfl, fun _ => H1.keep, ?_⟩
            replace H := H.call H1
            simp only [List.nil_append] at H
            refine wc_st (b := b102) (off := 0) (Tb := 73) (vs := (iv .u64 (wdF 4 32 x))) (cs' := (iv .u64 (wdF 4 32 x))) H 0 73 (.agg (iv .u64 (wdF 4 32 x)).toArray) 4 (by kernel_rfl) rfl rfl (by exact (iv_length .u64 (wdF 4 32 x)).trans hf105) (by have h := (iv_length .u64 (List.replicate 4 0)).trans List.length_replicate; omega) (by exact iv_flat _ _) (by exact blit_all _ _ ((show (iv .u64 (wdF 4 32 x) : List Value).length = 4 from (iv_length .u64 (wdF 4 32 x)).trans hf105).trans (show (iv .u64 (List.replicate 4 0) : List Value).length = 4 from (iv_length .u64 (List.replicate 4 0)).trans List.length_replicate).symm)) (fun w108 H => ?_)
            dsimp only [List.set] at H
            refine wc_st (b := b86) (off := 0) (Tb := 73) (vs := (iv .u64 (wdF 4 32 y))) (cs' := (iv .u64 (wdF 4 32 y))) H 1 73 (.agg (iv .u64 (wdF 4 32 y)).toArray) 4 (by kernel_rfl) rfl rfl (by exact (iv_length .u64 (wdF 4 32 y)).trans hf107) (by have h := (iv_length .u64 (List.replicate 4 0)).trans List.length_replicate; omega) (by exact iv_flat _ _) (by exact blit_all _ _ ((show (iv .u64 (wdF 4 32 y) : List Value).length = 4 from (iv_length .u64 (wdF 4 32 y)).trans hf107).trans (show (iv .u64 (List.replicate 4 0) : List Value).length = 4 from (iv_length .u64 (List.replicate 4 0)).trans List.length_replicate).symm)) (fun w109 H => ?_)
            dsimp only [List.set] at H
            refine wc_nil rfl ?_
            refine n_np ?_
            exact cut_end (b102, b86) [4, 5, 6] (by kernel_rfl) ⟨H.sel [1, 0, 2, 3] (by decide) rfl, hf105, hf107⟩
    rintro ⟨bc15, bc16⟩ w110 ⟨H, hf111, hf112⟩
    try dsimp only at H hf111 hf112
    refine wn_pick (T' := [(4, .pointer (some ⟨b7, 0, none⟩)), (5, .pointer (some ⟨bc15, 0, none⟩)), (6, .pointer (some ⟨bc16, 0, none⟩))]) [4, 5, 6] (by kernel_rfl) ?_
    refine wn_seq (by kernel_rfl) ?_
    refine wn_regD [] (ol [0, 1, 2]) (by kernel_rfl) H (fun w113 H => ?_)
    refine wc_sl (some 34) (some ⟨b7, 0, none⟩) 13 13 1 (some 5) (some 9) none (some ⟨b7, 5, none⟩) 4 8 (by kernel_rfl) (by kernel_rfl) (by simp) (by decide) (by decide) (by decide) (by decide) (by decide) (by decide) (by exact slA_some (by decide) (by first | rfl | omega)) ?_
    refine wc_sl (some 35) (some ⟨bc15, 0, none⟩) 4 4 1 none none none (some ⟨bc15, 0, none⟩) 4 4 (by kernel_rfl) (by kernel_rfl) (by simp) (by decide) (by decide) (by decide) (by decide) (by decide) (by decide) (by exact slA_zero _ _ _) ?_
    refine wc_cp H 2 (some 36) (B := (some ⟨bc15, 0, none⟩)) (b := b7) (off := 5) (n := 4) (c := 8) (mm := 4) (cc := 4) (t := 84) (e := 22) (Tb := 61) 1 8 (cs := (([.int .u64 k, .int .u64 f, .int .u64 t, .int .u64 a, .int .u64 n]) ++ (([.int .u64 0, .int .u64 0, .int .u64 0, .int .u64 0]) ++ ([.int .u64 0, .int .u64 0, .int .u64 0, .int .u64 0])))) (cs' := ([.int .u64 k, .int .u64 f, .int .u64 t, .int .u64 a, .int .u64 n] ++ ((iv .u64 (wdF 4 32 x)) ++ [.int .u64 0, .int .u64 0, .int .u64 0, .int .u64 0]))) (ys := (iv .u64 (wdF 4 32 x))) 4 (by kernel_rfl) (by kernel_rfl) (Rd.of_ent H (k := 1) (off := 0) (n := 4) rfl (by exact List.take_of_length_le (Nat.le_of_eq (by exact (iv_length .u64 (wdF 4 32 x)).trans hf111)))) ((iv_length ..).trans (hf111)) (by exact iv_flat _ _) (by decide) (by simp) (by rw [takeF (hf111), show 5 = 5 + 0 from rfl, blitL (p := ([.int .u64 k, .int .u64 f, .int .u64 t, .int .u64 a, .int .u64 n])) (n := 5) (o := 0) (rfl), blitM (m := ([.int .u64 0, .int .u64 0, .int .u64 0, .int .u64 0])) (vs := iv .u64 (wdF 4 32 x)) ((rfl).trans ((iv_length ..).trans (hf111)).symm)]) (fun w114 H => ?_)
    dsimp only [List.set] at H
    refine wc_nil rfl ?_
    refine n_np ?_
    refine n_sq ?_
    refine wn_seq (by kernel_rfl) ?_
    refine wn_regD [] (ol [0, 1, 2]) (by kernel_rfl) H (fun w115 H => ?_)
    refine wc_sl (some 37) (some ⟨b7, 0, none⟩) 13 13 1 (some 9) none none (some ⟨b7, 9, none⟩) 4 4 (by kernel_rfl) (by kernel_rfl) (by simp) (by decide) (by decide) (by decide) (by decide) (by decide) (by decide) (by exact slA_some (by decide) (by first | rfl | omega)) ?_
    refine wc_sl (some 38) (some ⟨bc16, 0, none⟩) 4 4 1 none none none (some ⟨bc16, 0, none⟩) 4 4 (by kernel_rfl) (by kernel_rfl) (by simp) (by decide) (by decide) (by decide) (by decide) (by decide) (by decide) (by exact slA_zero _ _ _) ?_
    refine wc_cp H 2 (some 39) (B := (some ⟨bc16, 0, none⟩)) (b := b7) (off := 9) (n := 4) (c := 4) (mm := 4) (cc := 4) (t := 84) (e := 22) (Tb := 61) 1 8 (cs := (([.int .u64 k, .int .u64 f, .int .u64 t, .int .u64 a, .int .u64 n]) ++ ((iv .u64 (wdF 4 32 x)) ++ ([.int .u64 0, .int .u64 0, .int .u64 0, .int .u64 0])))) (cs' := ([.int .u64 k, .int .u64 f, .int .u64 t, .int .u64 a, .int .u64 n] ++ ((iv .u64 (wdF 4 32 x)) ++ (iv .u64 (wdF 4 32 y))))) (ys := (iv .u64 (wdF 4 32 y))) 4 (by kernel_rfl) (by kernel_rfl) (Rd.of_ent H (k := 0) (off := 0) (n := 4) rfl (by exact List.take_of_length_le (Nat.le_of_eq (by exact (iv_length .u64 (wdF 4 32 y)).trans hf112)))) ((iv_length ..).trans (hf112)) (by exact iv_flat _ _) (by decide) (by have h : ([.int .u64 k, .int .u64 f, .int .u64 t, .int .u64 a, .int .u64 n] ++ ((iv .u64 (wdF 4 32 x)) ++ [.int .u64 0, .int .u64 0, .int .u64 0, .int .u64 0]) : List Value).length = 13 := (lenA (rfl : ([.int .u64 k, .int .u64 f, .int .u64 t, .int .u64 a, .int .u64 n] : List Value).length = 5) (lenA ((iv_length .u64 (wdF 4 32 x)).trans hf111) (rfl : ([.int .u64 0, .int .u64 0, .int .u64 0, .int .u64 0] : List Value).length = 4))); omega) (by rw [takeF (hf112), show 9 = 5 + 4 from rfl, blitL (p := ([.int .u64 k, .int .u64 f, .int .u64 t, .int .u64 a, .int .u64 n])) (n := 5) (o := 4) (rfl), show 4 = 4 + 0 from rfl, blitL (p := (iv .u64 (wdF 4 32 x))) (n := 4) (o := 0) ((iv_length ..).trans (hf111)), blitE (m := ([.int .u64 0, .int .u64 0, .int .u64 0, .int .u64 0])) (vs := iv .u64 (wdF 4 32 y)) ((rfl).trans ((iv_length ..).trans (hf112)).symm)]) (fun w116 H => ?_)
    dsimp only [List.set] at H
    refine wc_nil rfl ?_
    refine n_np ?_
    refine n_sq ?_
    refine wn_seq (by kernel_rfl) ?_
    refine wn_reg 2 (by kernel_rfl) ?_
    refine wc_mk H (some 40) 104 5 1 1 [.int .u8 0] (by kernel_rfl) (by first | omega | (simp only [List.length_append, List.length_cons, List.length_nil, List.length_set, List.length_replicate, List.length_drop, List.length_take, iv_length, Nat.zero_add] at * <;> omega)) (fun A117 w118 H => ?_)
    rw [zrep_iv] at H
    refine wc_run (T' := [(4, .pointer (some ⟨b7, 0, none⟩)), (7, .slice A117 104 104)]) (L2 := (rng 2 0)) 1 [4, 7] (by kernel_rfl) ?_
    refine wc_nil rfl ?_
    refine n_sq ?_
    refine wn_seq (by kernel_rfl) ?_
    refine wn_seq (by kernel_rfl) ?_
    refine wn_reg 1 (by kernel_rfl) ?_
    refine wc_run (T' := [(4, .pointer (some ⟨b7, 0, none⟩)), (7, .slice A117 104 104), (41, .int .i64 0)]) (L2 := (rng 1 0)) 1 [4, 7, 41] (by kernel_rfl) ?_
    refine wc_nil rfl ?_
    refine n_sq ?_
    refine wn_block 0 (by kernel_rfl) ?_
    rw [show ([.int .u64 k, .int .u64 f, .int .u64 t, .int .u64 a, .int .u64 n] ++ ((iv .u64 (wdF 4 32 x)) ++ (iv .u64 (wdF 4 32 y))) : List Value) = iv .u64 ([k, f, t, a, n] ++ (wdF 4 32 x) ++ (wdF 4 32 y)) from by simp [iv]] at H
    refine wn_loop (fun ((i, q) : Int × List Int) => [(4, .pointer (some ⟨b7, 0, none⟩)), (7, .slice A117 104 104), (41, .int .i64 i)]) (fun ((i, q) : Int × List Int) w' => Hp no w w' [.sl A117 104 104 (iv .u8 q) 5 1, .bk bc16 (row (iv .u64 (wdF 4 32 y)) 73), .bk bc15 (row (iv .u64 (wdF 4 32 x)) 73), .bk b7 (row (iv .u64 ([k, f, t, a, n] ++ (wdF 4 32 x) ++ (wdF 4 32 y))) 61), .bk b1 (row ([.int .u8 k, .int .u64 f, .int .u64 t, .int .u64 a, .int .u64 n] ++ ((iv .u8 x) ++ (iv .u8 y))) 49)] ∧ 0 ≤ i ∧ i ≤ 104 ∧ q.length = 104 ∧ q = itN (frS ([k, f, t, a, n] ++ wdF 4 32 x ++ wdF 4 32 y)) i.toNat (List.replicate 104 0)) (fun ((i, q) : Int × List Int) => (104 - i).toNat) ((0 : Int), (List.replicate 104 0)) [4, 7, 41] (by kernel_rfl) rfl ⟨H, by simp [itN]⟩ ?_
    rintro ⟨i, q⟩ w120 ⟨H, hi⟩
    try dsimp only at H hi
    refine wn_pick (T' := [(4, .pointer (some ⟨b7, 0, none⟩)), (7, .slice A117 104 104), (41, .int .i64 i)]) [4, 7, 41] (by kernel_rfl) ?_
    refine wn_seq (by kernel_rfl) ?_
    refine wn_reg 1 (by kernel_rfl) ?_
    refine wc_run (T' := [(4, .pointer (some ⟨b7, 0, none⟩)), (7, .slice A117 104 104), (41, .int .i64 i), (42, .bool (decide (i < (104 : Int))))]) (L2 := (rng 1 0)) 1 [4, 7, 41, 42] (by kernel_rfl) ?_
    refine wc_nil rfl ?_
    refine n_sq ?_
    refine wn_seq (by kernel_rfl) ?_
    refine wn_cond (.tmp 42) (decide (i < (104 : Int))) (by kernel_rfl) rfl (fun hc121 => ?_) (fun hc121 => ?_)
    · have hc121 := of_decide_eq_true hc121
      refine wn_skip (by kernel_rfl) ?_
      refine n_sq ?_
      refine wn_seq (by kernel_rfl) ?_
      refine wn_block 1 (by kernel_rfl) ?_
      refine wn_seq (by kernel_rfl) ?_
      refine wn_reg 2 (by kernel_rfl) ?_
      refine wc_run (T' := [(4, .pointer (some ⟨b7, 0, none⟩)), (7, .slice A117 104 104), (8, .int .i64 i), (41, .int .i64 i)]) (L2 := (rng 2 0)) 2 [4, 7, 8, 41] (by kernel_rfl) ?_
      refine wc_nil rfl ?_
      refine n_sq ?_
      refine wn_reg 14 (by kernel_rfl) ?_
      refine wc_run (T' := [(4, .pointer (some ⟨b7, 0, none⟩)), (7, .slice A117 104 104), (8, .int .i64 i), (41, .int .i64 i), (44, .slice A117 104 104), (45, .int .i64 i), (47, .int .i64 (IntKind.i64.wrap (i.tdiv 8)))]) (L2 := (rng 4 10)) 4 [4, 7, 8, 41, 44, 45, 47] (by kernel_rfl) ?_
      rw [Int.tdiv_eq_ediv_of_nonneg (a := i) (b := 8) (by first | omega | (simp only [List.length_append, List.length_cons, List.length_nil, List.length_set, List.length_replicate, List.length_drop, List.length_take, iv_length, Nat.zero_add] at * <;> omega))]
      rw [wi64 (x := i / 8) (by first | omega | (simp only [List.length_append, List.length_cons, List.length_nil, List.length_set, List.length_replicate, List.length_drop, List.length_take, iv_length, Nat.zero_add] at * <;> omega)) (by first | omega | (simp only [List.length_append, List.length_cons, List.length_nil, List.length_set, List.length_replicate, List.length_drop, List.length_take, iv_length, Nat.zero_add] at * <;> omega))]
      refine wc_ix (b := b7) (off := 0) (o' := (i / 8).toNat) (some 48) (some ⟨b7, 0, none⟩) 13 1 (i / 8) (by kernel_rfl) rfl (by omega) (by omega) (by omega) ?_
      refine wc_ld (b := b7) (off := (i / 8).toNat) (some 49) 22 (.int .u64 (([k, f, t, a, n] ++ (wdF 4 32 x) ++ (wdF 4 32 y)).getD ((i / 8).toNat) 0)) (by kernel_rfl) (Ld.ent1 H 3 rfl (by kernel_rfl) (iv_get (by have h : ([k, f, t, a, n] ++ (wdF 4 32 x) ++ (wdF 4 32 y)).length = _ := (show ([k, f, t, a, n] ++ (wdF 4 32 x) ++ (wdF 4 32 y)).length = 13 by simp only [List.length_append, List.length_cons, List.length_nil]; have h5 : (wdF 4 32 x).length = 4 := hf111; have h6 : (wdF 4 32 y).length = 4 := hf112; omega); omega))) ?_
      refine wc_run (T' := [(4, .pointer (some ⟨b7, 0, none⟩)), (7, .slice A117 104 104), (41, .int .i64 i), (44, .slice A117 104 104), (45, .int .i64 i), (49, .int .u64 (([k, f, t, a, n] ++ (wdF 4 32 x) ++ (wdF 4 32 y)).getD ((i / 8).toNat) 0)), (51, .int .i64 (i.tmod 8))]) (L2 := (rng 8 6)) 2 [4, 7, 41, 44, 45, 49, 51] (by kernel_rfl) ?_
      rw [Int.tmod_eq_emod_of_nonneg (a := i) (b := 8) (by first | omega | (simp only [List.length_append, List.length_cons, List.length_nil, List.length_set, List.length_replicate, List.length_drop, List.length_take, iv_length, Nat.zero_add] at * <;> omega))]
      refine wc_run (T' := [(4, .pointer (some ⟨b7, 0, none⟩)), (7, .slice A117 104 104), (41, .int .i64 i), (44, .slice A117 104 104), (45, .int .i64 i), (49, .int .u64 (([k, f, t, a, n] ++ (wdF 4 32 x) ++ (wdF 4 32 y)).getD ((i / 8).toNat) 0)), (52, .int .i64 (IntKind.i64.wrap (8 * (i % 8))))]) (L2 := (rng 9 5)) 1 [4, 7, 41, 44, 45, 49, 52] (by kernel_rfl) ?_
      rw [wi64 (x := 8 * (i % 8)) (by first | omega | (simp only [List.length_append, List.length_cons, List.length_nil, List.length_set, List.length_replicate, List.length_drop, List.length_take, iv_length, Nat.zero_add] at * <;> omega)) (by first | omega | (simp only [List.length_append, List.length_cons, List.length_nil, List.length_set, List.length_replicate, List.length_drop, List.length_take, iv_length, Nat.zero_add] at * <;> omega))]
      refine wc_run (T' := [(4, .pointer (some ⟨b7, 0, none⟩)), (7, .slice A117 104 104), (41, .int .i64 i), (44, .slice A117 104 104), (45, .int .i64 i), (49, .int .u64 (([k, f, t, a, n] ++ (wdF 4 32 x) ++ (wdF 4 32 y)).getD ((i / 8).toNat) 0)), (53, .int .i64 (IntKind.i64.wrap (56 - (8 * (i % 8)))))]) (L2 := (rng 10 4)) 1 [4, 7, 41, 44, 45, 49, 53] (by kernel_rfl) ?_
      rw [wi64 (x := 56 - (8 * (i % 8))) (by first | omega | (simp only [List.length_append, List.length_cons, List.length_nil, List.length_set, List.length_replicate, List.length_drop, List.length_take, iv_length, Nat.zero_add] at * <;> omega)) (by first | omega | (simp only [List.length_append, List.length_cons, List.length_nil, List.length_set, List.length_replicate, List.length_drop, List.length_take, iv_length, Nat.zero_add] at * <;> omega))]
      refine wc_shr (some 54) .u64 (([k, f, t, a, n] ++ (wdF 4 32 x) ++ (wdF 4 32 y)).getD ((i / 8).toNat) 0) (56 - (8 * (i % 8))) (by kernel_rfl) (by kernel_rfl) (by omega) ?_
      refine wc_run (T' := [(4, .pointer (some ⟨b7, 0, none⟩)), (7, .slice A117 104 104), (41, .int .i64 i), (44, .slice A117 104 104), (45, .int .i64 i), (55, .int .u8 (IntKind.u8.wrap (shrV .u64 (([k, f, t, a, n] ++ (wdF 4 32 x) ++ (wdF 4 32 y)).getD ((i / 8).toNat) 0) (56 - (8 * (i % 8))))))]) (L2 := (rng 12 2)) 1 [4, 7, 41, 44, 45, 55] (by kernel_rfl) ?_
      refine wc_ixA (some 56) A117 104 1 i i.toNat (by kernel_rfl) (Rd.isSome (cs := (iv .u8 q)) (Rd.sl H 0 rfl) (by first | omega | (simp only [List.length_append, List.length_cons, List.length_nil, List.length_set, List.length_replicate, List.length_drop, List.length_take, iv_length, Nat.zero_add] at * <;> omega))) (by first | omega | (simp only [List.length_append, List.length_cons, List.length_nil, List.length_set, List.length_replicate, List.length_drop, List.length_take, iv_length, Nat.zero_add] at * <;> omega)) (by first | omega | (simp only [List.length_append, List.length_cons, List.length_nil, List.length_set, List.length_replicate, List.length_drop, List.length_take, iv_length, Nat.zero_add] at * <;> omega)) (by first | rfl | first | omega | (simp only [List.length_append, List.length_cons, List.length_nil, List.length_set, List.length_replicate, List.length_drop, List.length_take, iv_length, Nat.zero_add] at * <;> omega)) ?_
      refine wc_stS (A := A117) (nn := 104) (c := 104) (e := 5) (s := 1) (off := i.toNat) (xs := (iv .u8 q)) (vs := ([.int .u8 (IntKind.u8.wrap (shrV .u64 (([k, f, t, a, n] ++ (wdF 4 32 x) ++ (wdF 4 32 y)).getD ((i / 8).toNat) 0) (56 - (8 * (i % 8)))))])) (xs' := (iv .u8 (q.set i.toNat (IntKind.u8.wrap (shrV .u64 (([k, f, t, a, n] ++ (wdF 4 32 x) ++ (wdF 4 32 y)).getD ((i / 8).toNat) 0) (56 - (8 * (i % 8)))))))) H 0 5 (.int .u8 (IntKind.u8.wrap (shrV .u64 (([k, f, t, a, n] ++ (wdF 4 32 x) ++ (wdF 4 32 y)).getD ((i / 8).toNat) 0) (56 - (8 * (i % 8)))))) 1 (by kernel_rfl) rfl rfl rfl (by first | omega | (simp only [List.length_append, List.length_cons, List.length_nil, List.length_set, List.length_replicate, List.length_drop, List.length_take, iv_length, Nat.zero_add] at * <;> omega)) (by first | omega | (simp only [List.length_append, List.length_cons, List.length_nil, List.length_set, List.length_replicate, List.length_drop, List.length_take, iv_length, Nat.zero_add] at * <;> omega)) (by simp [Value.oneCell']) (by exact iv_set _ _ _ _ (by first | omega | (simp only [List.length_append, List.length_cons, List.length_nil, List.length_set, List.length_replicate, List.length_drop, List.length_take, iv_length, Nat.zero_add] at * <;> omega))) (fun w122 H => ?_)
      dsimp only [List.set] at H
      refine wc_nil rfl ?_
      refine n_blk ?_
      refine n_sq ?_
      refine wn_reg 2 (by kernel_rfl) ?_
      refine wc_run (T' := [(4, .pointer (some ⟨b7, 0, none⟩)), (7, .slice A117 104 104), (57, .int .i64 (IntKind.i64.wrap (i + 1)))]) (L2 := (rng 1 1)) 1 [4, 7, 57] (by kernel_rfl) ?_
      rw [wi64 (x := i + 1) (by first | omega | (simp only [List.length_append, List.length_cons, List.length_nil, List.length_set, List.length_replicate, List.length_drop, List.length_take, iv_length, Nat.zero_add] at * <;> omega)) (by first | omega | (simp only [List.length_append, List.length_cons, List.length_nil, List.length_set, List.length_replicate, List.length_drop, List.length_take, iv_length, Nat.zero_add] at * <;> omega))]
      refine wc_run (T' := [(4, .pointer (some ⟨b7, 0, none⟩)), (7, .slice A117 104 104), (41, .int .i64 (i + 1))]) (L2 := (rng 2 0)) 1 [4, 7, 41] (by kernel_rfl) ?_
      refine wc_nil rfl ?_
      refine round_end (i + 1, (q.set i.toNat (IntKind.u8.wrap (shrV .u64 (([k, f, t, a, n] ++ (wdF 4 32 x) ++ (wdF 4 32 y)).getD ((i / 8).toNat) 0) (56 - (8 * (i % 8))))))) [4, 7, 41] (by kernel_rfl) ⟨H, ?_⟩ ?_
      · obtain ⟨h1, h2, h3, h4⟩ := hi
        have e1 : (i + 1).toNat = i.toNat + 1 := by omega
        have e2 : (i / 8).toNat = i.toNat / 8 := by omega
        have e3 : ((i.toNat : Nat) : Int) = i := by omega
        refine ⟨by omega, by omega, by simp [h3], ?_⟩
        rw [e1, e2, itN, frS, ← h4, e3]
      · first | omega | (dsimp only; omega)
    · have hc121 := of_decide_eq_false hc121
      refine wn_exit 0 (by kernel_rfl) ?_
      refine e_sq ?_
      refine e_then ?_
      refine e_blk ?_
      refine n_sq ?_
      refine wn_seq (by kernel_rfl) ?_
      refine wn_reg 3 (by kernel_rfl) ?_
      refine wc_run (T' := [(2, .slice A117 104 104), (3, .int .i64 0)]) (L2 := (rng 3 0)) 3 [2, 3] (by kernel_rfl) ?_
      refine wc_nil rfl ?_
      refine n_sq ?_
      refine wn_ret (by kernel_rfl) ?_
      refine ret2 _ (Or.inr rfl) Try.results22 rfl rfl ?_
      have he123 : (wrM k f t a n x y) = q := by
        rw [hM1 hc4, ← hz]
        obtain ⟨h1, h2, h3, h4⟩ := hi
        have e : i.toNat = 104 := by omega
        rw [h4, e, frF]
      have he124 : (wrM k f t a n x y).length = 104 := by
        rw [hM1 hc4]; simp [wrR_length, hx, hy]
      have he125 : wrE k f t a n x y = (0 : Int) := by
        exact hE1 hc4
      exact ⟨A117, 104, by first | (rw [he124, he123, he125]; done) | (rw [he124, he123, he125]; rfl) | (rw [he124, he125]; done) | (rw [he124, he125]; rfl), (by rw [he124, he123]; exact H.sel [0] (by decide) rfl), by exact wrM_range hxb hyb, by exact get_of_mem (p := fun x => 0 ≤ x ∧ x < 256) (by omega) (wrM_range hxb hyb), by rw [wrM_len _ _ _ _ _ hx hy]; split <;> omega⟩

noncomputable def cd_proctorref07_Write : Code := (Try.f23.body).getD .skip
theorem proctorref07_Write (w : World) (k : Int) (f : Int) (t : Int) (a : Int) (n : Int) (x : List Int) (y : List Int) (hx : x.length = 32) (hy : y.length = 32) (hk : 0 ≤ k ∧ k < 256) (hf : 0 ≤ f ∧ f < 18446744073709551616) (ht : 0 ≤ t ∧ t < 18446744073709551616) (ha : 0 ≤ a ∧ a < 18446744073709551616) (hn : 0 ≤ n ∧ n < 18446744073709551616) (hxb : ∀ j, 0 ≤ x.getD j 0 ∧ x.getD j 0 < 256) (hyb : ∀ j, 0 ≤ y.getD j 0 ∧ y.getD j 0 < 256) :
    Calls Try.prog 23 #[.agg ([.int .u8 k, .int .u64 f, .int .u64 t, .int .u64 a, .int .u64 n] ++ ((iv .u8 x) ++ (iv .u8 y)) : List Value).toArray] w (fun e w' => ∃ (A : Option Addr), ∃ (c : Nat), e = .returned (.tuple #[.slice A ((wrM k f t a n x y).length) c, .int .i64 (wrE k f t a n x y)]) ∧ Hp no w w' [.sl A ((wrM k f t a n x y).length) c (iv .u8 (wrM k f t a n x y)) 5 1] ∧ (∀ z ∈ wrM k f t a n x y, 0 ≤ z ∧ z < 256) ∧ (∀ j, 0 ≤ (wrM k f t a n x y).getD j 0 ∧ (wrM k f t a n x y).getD j 0 < 256) ∧ (wrM k f t a n x y).length ≤ 104) := by
  have hz := wr_bytes (k := k) (f := f) (t := t) (a := a) (n := n) hx hy hxb hyb
  have hM0 : mayM k f t a n x y = false → wrM k f t a n x y = [] := fun h => by unfold wrM; rw [if_neg (by rw [h]; decide)]
  have hM1 : mayM k f t a n x y = true → wrM k f t a n x y = wrR [k, f, t, a, n] 5 ++ x ++ y := fun h => by unfold wrM; rw [if_pos h]
  have hE0 : mayM k f t a n x y = false → wrE k f t a n x y = 2 := fun h => by unfold wrE; rw [if_neg (by rw [h]; decide)]
  have hE1 : mayM k f t a n x y = true → wrE k f t a n x y = 0 := fun h => by unfold wrE; rw [if_pos h]
  refine enter (args := [_]) (c := cd_proctorref07_Write) (N := 40) Try.func23 (by kernel_rfl) (by kernel_rfl) (by simp) ?_
  have H := Hp.start w
  refine wn_seq (by kernel_rfl) ?_
  refine wn_reg 3 (by kernel_rfl) ?_
  refine wc_new H (some 1) (row ([.int .u8 k, .int .u64 f, .int .u64 t, .int .u64 a, .int .u64 n] ++ ((iv .u8 x) ++ (iv .u8 y))) 49) (fun r => .pointer (some ⟨r, 0, none⟩)) (by kernel_rfl) (fun b1 w2 H => ?_)
  refine wc_run (T' := [(1, .pointer (some ⟨b1, 0, none⟩))]) (L2 := (rng 3 0)) 2 [1] (by kernel_rfl) ?_
  refine wc_nil rfl ?_
  refine n_sq ?_
  refine wn_seq (by kernel_rfl) ?_
  refine wn_seq (by kernel_rfl) ?_
  refine wn_reg 3 (by kernel_rfl) ?_
  refine wc_ld (b := b1) (off := 0) (some 7) 49 (.agg ([.int .u8 k, .int .u64 f, .int .u64 t, .int .u64 a, .int .u64 n] ++ ((iv .u8 x) ++ (iv .u8 y)) : List Value).toArray) (by kernel_rfl) (Ld.entW H 0 (n := 69) rfl (by kernel_rfl) (by exact (lenA (rfl : ([.int .u8 k, .int .u64 f, .int .u64 t, .int .u64 a, .int .u64 n] : List Value).length = 5) (lenA ((iv_length .u8 x).trans hx) ((iv_length .u8 y).trans hy))))) ?_
  refine wc_call (some 8) (by kernel_rfl) (proctorref07_May w2 k f t a n x y hx hy hk hf ht ha hn hxb hyb) ?_
  rintro _ w3 ⟨rfl, H1⟩
  refine ⟨_, rfl, fun _ => H1.keep, ?_⟩
  replace H := H.call H1
  simp only [List.nil_append] at H
  refine wc_run (T' := [(1, .pointer (some ⟨b1, 0, none⟩)), (9, .bool (!(mayM k f t a n x y)))]) (L2 := (rng 3 0)) 1 [1, 9] (by kernel_rfl) ?_
  refine wc_nil rfl ?_
  refine n_sq ?_
  refine wn_cond (.tmp 9) (!(mayM k f t a n x y)) (by kernel_rfl) rfl (fun hc4 => ?_) (fun hc4 => ?_)
  · have hc4 := notT hc4
    refine wn_seq (by kernel_rfl) ?_
    refine wn_reg 2 (by kernel_rfl) ?_
    refine wc_run (T' := [(2, .slice none 0 0), (3, .int .i64 2)]) (L2 := (rng 2 0)) 2 [2, 3] (by kernel_rfl) ?_
    refine wc_nil rfl ?_
    refine n_sq ?_
    refine wn_ret (by kernel_rfl) ?_
    refine r_sq ?_
    refine ret2 _ (Or.inr rfl) Try.results23 rfl rfl ?_
    have H := H.nils 5 1
    have he5 : (wrM k f t a n x y) = [] := by
      exact hM0 hc4
    have he6 : wrE k f t a n x y = (2 : Int) := by
      exact hE0 hc4
    exact ⟨none, 0, by first | (rw [he5, he6]; done) | (rw [he5, he6]; rfl) | (rw [he6]; done) | (rw [he6]; rfl), (by rw [he5]; exact H.sel [0] (by decide) rfl), by exact wrM_range hxb hyb, by exact get_of_mem (p := fun x => 0 ≤ x ∧ x < 256) (by omega) (wrM_range hxb hyb), by rw [wrM_len _ _ _ _ _ hx hy]; split <;> omega⟩
  · have hc4 := notF hc4
    refine wn_skip (by kernel_rfl) ?_
    refine n_sq ?_
    refine wn_seq (by kernel_rfl) ?_
    refine wn_reg 13 (by kernel_rfl) ?_
    refine wc_run (T' := [(1, .pointer (some ⟨b1, 0, none⟩)), (10, .pointer (some ⟨b1, 0, none⟩))]) (L2 := (rng 1 12)) 1 [1, 10] (by kernel_rfl) ?_
    refine wc_ld (b := b1) (off := 0) (some 11) 45 (.int .u8 k) (by kernel_rfl) (Ld.ent1 H 0 rfl (by kernel_rfl) (by rfl)) ?_
    refine wc_run (T' := [(1, .pointer (some ⟨b1, 0, none⟩)), (12, .int .u64 (IntKind.u64.wrap (k)))]) (L2 := (rng 3 10)) 1 [1, 12] (by kernel_rfl) ?_
    rw [wu64 (x := k) (by first | omega | (simp only [List.length_append, List.length_cons, List.length_nil, List.length_set, List.length_replicate, List.length_drop, List.length_take, iv_length, Nat.zero_add] at * <;> omega)) (by first | omega | (simp only [List.length_append, List.length_cons, List.length_nil, List.length_set, List.length_replicate, List.length_drop, List.length_take, iv_length, Nat.zero_add] at * <;> omega))]
    refine wc_run (T' := [(1, .pointer (some ⟨b1, 0, none⟩)), (12, .int .u64 k), (13, .pointer (some ⟨b1, 1, none⟩))]) (L2 := (rng 4 9)) 1 [1, 12, 13] (by kernel_rfl) ?_
    refine wc_ld (b := b1) (off := 1) (some 14) 22 (.int .u64 f) (by kernel_rfl) (Ld.ent1 H 0 rfl (by kernel_rfl) (by rfl)) ?_
    refine wc_run (T' := [(1, .pointer (some ⟨b1, 0, none⟩)), (12, .int .u64 k), (14, .int .u64 f), (15, .pointer (some ⟨b1, 2, none⟩))]) (L2 := (rng 6 7)) 1 [1, 12, 14, 15] (by kernel_rfl) ?_
    refine wc_ld (b := b1) (off := 2) (some 16) 22 (.int .u64 t) (by kernel_rfl) (Ld.ent1 H 0 rfl (by kernel_rfl) (by rfl)) ?_
    refine wc_run (T' := [(1, .pointer (some ⟨b1, 0, none⟩)), (12, .int .u64 k), (14, .int .u64 f), (16, .int .u64 t), (17, .pointer (some ⟨b1, 3, none⟩))]) (L2 := (rng 8 5)) 1 [1, 12, 14, 16, 17] (by kernel_rfl) ?_
    refine wc_ld (b := b1) (off := 3) (some 18) 22 (.int .u64 a) (by kernel_rfl) (Ld.ent1 H 0 rfl (by kernel_rfl) (by rfl)) ?_
    refine wc_run (T' := [(1, .pointer (some ⟨b1, 0, none⟩)), (12, .int .u64 k), (14, .int .u64 f), (16, .int .u64 t), (18, .int .u64 a), (19, .pointer (some ⟨b1, 4, none⟩))]) (L2 := (rng 10 3)) 1 [1, 12, 14, 16, 18, 19] (by kernel_rfl) ?_
    refine wc_ld (b := b1) (off := 4) (some 20) 22 (.int .u64 n) (by kernel_rfl) (Ld.ent1 H 0 rfl (by kernel_rfl) (by rfl)) ?_
    refine wc_new H (some 21) (row ([.int .u64 k, .int .u64 f, .int .u64 t, .int .u64 a, .int .u64 n]) 22) (fun r => .slice (some ⟨r, 0, none⟩) 5 5) (by kernel_rfl) (fun b7 w8 H => ?_)
    refine wc_run (T' := [(1, .pointer (some ⟨b1, 0, none⟩)), (4, .slice (some ⟨b7, 0, none⟩) 5 5)]) (L2 := (rng 13 0)) 1 [1, 4] (by kernel_rfl) ?_
    refine wc_nil rfl ?_
    refine n_sq ?_
    refine wn_seq (by kernel_rfl) ?_
    refine wn_reg 1 (by kernel_rfl) ?_
    refine wc_run (T' := [(1, .pointer (some ⟨b1, 0, none⟩)), (4, .slice (some ⟨b7, 0, none⟩) 5 5), (5, .slice none 0 0)]) (L2 := (rng 1 0)) 1 [1, 4, 5] (by kernel_rfl) ?_
    refine wc_nil rfl ?_
    refine n_sq ?_
    refine wn_seq (by kernel_rfl) ?_
    refine wn_seq (by kernel_rfl) ?_
    refine wn_reg 1 (by kernel_rfl) ?_
    refine wc_run (T' := [(1, .pointer (some ⟨b1, 0, none⟩)), (4, .slice (some ⟨b7, 0, none⟩) 5 5), (5, .slice none 0 0), (6, .int .i64 0)]) (L2 := (rng 1 0)) 1 [1, 4, 5, 6] (by kernel_rfl) ?_
    refine wc_nil rfl ?_
    refine n_sq ?_
    refine wn_block 0 (by kernel_rfl) ?_
    have H := H.nils 5 1
    refine wn_loop (fun ((i, q, A, c) : Int × List Int × Option Addr × Nat) => [(1, .pointer (some ⟨b1, 0, none⟩)), (4, .slice (some ⟨b7, 0, none⟩) 5 5), (5, .slice A q.length c), (6, .int .i64 i)]) (fun ((i, q, A, c) : Int × List Int × Option Addr × Nat) w' => Hp no w w' [.sl A q.length c (iv .u8 q) 5 1, .bk b7 (row ([.int .u64 k, .int .u64 f, .int .u64 t, .int .u64 a, .int .u64 n]) 22), .bk b1 (row ([.int .u8 k, .int .u64 f, .int .u64 t, .int .u64 a, .int .u64 n] ++ ((iv .u8 x) ++ (iv .u8 y))) 49)] ∧ 0 ≤ i ∧ i ≤ 5 ∧ q.length = 8 * i.toNat ∧ q = itN (catS [k, f, t, a, n]) i.toNat []) (fun ((i, q, A, c) : Int × List Int × Option Addr × Nat) => (5 - i).toNat) ((0 : Int), [], none, 0) [1, 4, 5, 6] (by kernel_rfl) rfl ⟨H, by simp [itN]⟩ ?_
    rintro ⟨i, q, A, c⟩ w9 ⟨H, hi⟩
    try dsimp only at H hi
    refine wn_pick (T' := [(1, .pointer (some ⟨b1, 0, none⟩)), (4, .slice (some ⟨b7, 0, none⟩) 5 5), (5, .slice A q.length c), (6, .int .i64 i)]) [1, 4, 5, 6] (by kernel_rfl) ?_
    refine wn_seq (by kernel_rfl) ?_
    refine wn_seq (by kernel_rfl) ?_
    refine wn_reg 2 (by kernel_rfl) ?_
    refine wc_run (T' := [(1, .pointer (some ⟨b1, 0, none⟩)), (4, .slice (some ⟨b7, 0, none⟩) 5 5), (5, .slice A q.length c), (6, .int .i64 i), (23, .bool (decide (i < (5 : Int))))]) (L2 := (rng 2 0)) 2 [1, 4, 5, 6, 23] (by kernel_rfl) ?_
    refine wc_nil rfl ?_
    refine n_sq ?_
    refine wn_cond (.tmp 23) (decide (i < (5 : Int))) (by kernel_rfl) rfl (fun hc10 => ?_) (fun hc10 => ?_)
    · have hc10 := of_decide_eq_true hc10
      refine wn_skip (by kernel_rfl) ?_
      refine n_sq ?_
      refine wn_seq (by kernel_rfl) ?_
      refine wn_block 1 (by kernel_rfl) ?_
      refine wn_reg 8 (by kernel_rfl) ?_
      refine wc_run (T' := [(1, .pointer (some ⟨b1, 0, none⟩)), (4, .slice (some ⟨b7, 0, none⟩) 5 5), (6, .int .i64 i), (26, .slice A q.length c), (27, .slice (some ⟨b7, 0, none⟩) 5 5), (28, .int .i64 i)]) (L2 := (rng 3 5)) 3 [1, 4, 6, 26, 27, 28] (by kernel_rfl) ?_
      refine wc_ix (b := b7) (off := 0) (o' := i.toNat) (some 29) (some ⟨b7, 0, none⟩) 5 1 i (by kernel_rfl) rfl (by first | omega | (simp only [List.length_append, List.length_cons, List.length_nil, List.length_set, List.length_replicate, List.length_drop, List.length_take, iv_length, Nat.zero_add] at * <;> omega)) (by first | omega | (simp only [List.length_append, List.length_cons, List.length_nil, List.length_set, List.length_replicate, List.length_drop, List.length_take, iv_length, Nat.zero_add] at * <;> omega)) (by first | omega | (simp only [List.length_append, List.length_cons, List.length_nil, List.length_set, List.length_replicate, List.length_drop, List.length_take, iv_length, Nat.zero_add] at * <;> omega)) ?_
      refine wc_ld (b := b7) (off := i.toNat) (some 30) 22 (.int .u64 ([k, f, t, a, n].getD i.toNat 0)) (by kernel_rfl) (Ld.ent1 H 1 rfl (by kernel_rfl) (iv_get (k := .u64) (l := [k, f, t, a, n]) (by first | omega | (simp only [List.length_append, List.length_cons, List.length_nil, List.length_set, List.length_replicate, List.length_drop, List.length_take, iv_length, Nat.zero_add] at * <;> omega)))) ?_
      refine wc_call (some 31) (by kernel_rfl) (proctorref06_Eight w9 ([k, f, t, a, n].getD i.toNat 0)) ?_
      rintro _ w13 ⟨A11, c12, rfl, H1, hf14⟩
      refine ⟨_, rfl, fun _ => H1.keep, ?_⟩
      replace H := H.call H1
      simp only [List.nil_append, List.cons_append] at H
      refine wc_appN H 1 (some 32) (A := A) (n := q.length) (c := c) (B := A11) (mm := ((ei8 ([k, f, t, a, n].getD i.toNat 0)).length)) (cc := c12) (t := 50) (e := 5) 1 1 (xs := (iv .u8 q)) (ys := (iv .u8 (ei8 ([k, f, t, a, n].getD i.toNat 0)))) (zs := (iv .u8 (q ++ (ei8 ([k, f, t, a, n].getD i.toNat 0))))) ((q ++ (ei8 ([k, f, t, a, n].getD i.toNat 0))).length) (by kernel_rfl) rfl (Rd.sl H 0 rfl) (by simp [iv]; try first | omega | (simp only [List.length_append, List.length_cons, List.length_nil, List.length_set, List.length_replicate, List.length_drop, List.length_take, iv_length, Nat.zero_add] at * <;> omega)) (by first | exact iv_flat _ _ | simp [Value.oneCell']) (by first | omega | (simp only [List.length_append, List.length_cons, List.length_nil, List.length_set, List.length_replicate, List.length_drop, List.length_take, iv_length, Nat.zero_add] at * <;> omega)) (by simp [iv]) (by first | omega | (simp only [List.length_append, List.length_cons, List.length_nil, List.length_set, List.length_replicate, List.length_drop, List.length_take, iv_length, Nat.zero_add] at * <;> omega)) (fun A15 c16 w17 H => ?_)
      dsimp only [List.set] at H
      refine wc_run (T' := [(1, .pointer (some ⟨b1, 0, none⟩)), (4, .slice (some ⟨b7, 0, none⟩) 5 5), (5, .slice A15 ((q ++ (ei8 ([k, f, t, a, n].getD i.toNat 0))).length) c16), (6, .int .i64 i)]) (L2 := (rng 8 0)) 1 [1, 4, 5, 6] (by kernel_rfl) ?_
      refine wc_nil rfl ?_
      refine n_blk ?_
      refine n_sq ?_
      refine wn_reg 3 (by kernel_rfl) ?_
      refine wc_run (T' := [(1, .pointer (some ⟨b1, 0, none⟩)), (4, .slice (some ⟨b7, 0, none⟩) 5 5), (5, .slice A15 ((q ++ (ei8 ([k, f, t, a, n].getD i.toNat 0))).length) c16), (25, .int .i64 (IntKind.i64.wrap (i + 1)))]) (L2 := (rng 2 1)) 2 [1, 4, 5, 25] (by kernel_rfl) ?_
      rw [wi64 (x := i + 1) (by first | omega | (simp only [List.length_append, List.length_cons, List.length_nil, List.length_set, List.length_replicate, List.length_drop, List.length_take, iv_length, Nat.zero_add] at * <;> omega)) (by first | omega | (simp only [List.length_append, List.length_cons, List.length_nil, List.length_set, List.length_replicate, List.length_drop, List.length_take, iv_length, Nat.zero_add] at * <;> omega))]
      refine wc_run (T' := [(1, .pointer (some ⟨b1, 0, none⟩)), (4, .slice (some ⟨b7, 0, none⟩) 5 5), (5, .slice A15 ((q ++ (ei8 ([k, f, t, a, n].getD i.toNat 0))).length) c16), (6, .int .i64 (i + 1))]) (L2 := (rng 3 0)) 1 [1, 4, 5, 6] (by kernel_rfl) ?_
      refine wc_nil rfl ?_
      refine round_end (i + 1, (q ++ (ei8 ([k, f, t, a, n].getD i.toNat 0))), A15, c16) [1, 4, 5, 6] (by kernel_rfl) ⟨H.sel [1, 2, 3] (by decide) rfl, ?_⟩ ?_
      · obtain ⟨h1, h2, h3, h4⟩ := hi
        have e1 : (i + 1).toNat = i.toNat + 1 := by omega
        refine ⟨by omega, by omega, by simp [h3, ei8_length]; omega, ?_⟩
        rw [e1, itN, catS, ← h4]
      · first | omega | (dsimp only; omega)
    · have hc10 := of_decide_eq_false hc10
      refine wn_exit 0 (by kernel_rfl) ?_
      refine e_sq ?_
      refine e_then ?_
      refine e_blk ?_
      refine n_sq ?_
      refine wn_seq (by kernel_rfl) ?_
      refine wn_regD [] (ol [0, 1, 2, 4, 5, 3, 6, 7, 8]) (by kernel_rfl) H (fun w18 H => ?_)
      refine wc_run (T' := [(1, .pointer (some ⟨b1, 0, none⟩)), (33, .slice A q.length c), (34, .pointer (some ⟨b1, 5, none⟩))]) (L2 := (ol [2, 4, 5, 3, 6, 7, 8])) 2 [1, 33, 34] (by kernel_rfl) ?_
      refine wc_sl (some 35) (some ⟨b1, 5, none⟩) 32 32 1 none none none (some ⟨b1, 5, none⟩) 32 32 (by kernel_rfl) (by kernel_rfl) (by simp) (by decide) (by decide) (by decide) (by decide) (by decide) (by decide) (by exact slA_zero _ _ _) ?_
      refine wc_run (T' := [(33, .slice A q.length c), (35, .slice (some ⟨b1, 5, none⟩) 32 32), (37, .pointer (some ⟨b1, 37, none⟩))]) (L2 := (ol [5, 3, 6, 7, 8])) 1 [33, 35, 37] (by kernel_rfl) ?_
      refine wc_sl (some 38) (some ⟨b1, 37, none⟩) 32 32 1 none none none (some ⟨b1, 37, none⟩) 32 32 (by kernel_rfl) (by kernel_rfl) (by simp) (by decide) (by decide) (by decide) (by decide) (by decide) (by decide) (by exact slA_zero _ _ _) ?_
      refine wc_appN H 0 (some 36) (A := A) (n := q.length) (c := c) (B := (some ⟨b1, 5, none⟩)) (mm := 32) (cc := 32) (t := 50) (e := 5) 1 1 (xs := (iv .u8 q)) (ys := (iv .u8 x)) (zs := (iv .u8 (q ++ x))) ((q ++ x).length) (by kernel_rfl) rfl (Rd.of_ent H (k := 2) (off := 5) (n := 32) rfl (by first | rfl | (simp [List.drop_append, List.take_append, iv_length, *]; done) | (simp [List.drop_append, List.take_append, iv_length, *]; exact List.take_of_length_le (by simp [iv_length, *])))) (by simp [iv]; try first | omega | (simp only [List.length_append, List.length_cons, List.length_nil, List.length_set, List.length_replicate, List.length_drop, List.length_take, iv_length, Nat.zero_add] at * <;> omega)) (by first | exact iv_flat _ _ | simp [Value.oneCell']) (by first | omega | (simp only [List.length_append, List.length_cons, List.length_nil, List.length_set, List.length_replicate, List.length_drop, List.length_take, iv_length, Nat.zero_add] at * <;> omega)) (by simp [iv]) (by first | omega | (simp only [List.length_append, List.length_cons, List.length_nil, List.length_set, List.length_replicate, List.length_drop, List.length_take, iv_length, Nat.zero_add] at * <;> omega)) (fun A19 c20 w21 H => ?_)
      dsimp only [List.set] at H
      refine wc_appN H 0 (some 39) (A := A19) (n := ((q ++ x).length)) (c := c20) (B := (some ⟨b1, 37, none⟩)) (mm := 32) (cc := 32) (t := 50) (e := 5) 1 1 (xs := (iv .u8 (q ++ x))) (ys := (iv .u8 y)) (zs := (iv .u8 ((q ++ x) ++ y))) (((q ++ x) ++ y).length) (by kernel_rfl) rfl (Rd.of_ent H (k := 2) (off := 37) (n := 32) rfl (by first | rfl | (simp [List.drop_append, List.take_append, iv_length, *]; done) | (simp [List.drop_append, List.take_append, iv_length, *]; exact List.take_of_length_le (by simp [iv_length, *])))) (by simp [iv]; try first | omega | (simp only [List.length_append, List.length_cons, List.length_nil, List.length_set, List.length_replicate, List.length_drop, List.length_take, iv_length, Nat.zero_add] at * <;> omega)) (by first | exact iv_flat _ _ | simp [Value.oneCell']) (by first | omega | (simp only [List.length_append, List.length_cons, List.length_nil, List.length_set, List.length_replicate, List.length_drop, List.length_take, iv_length, Nat.zero_add] at * <;> omega)) (by simp [iv]) (by first | omega | (simp only [List.length_append, List.length_cons, List.length_nil, List.length_set, List.length_replicate, List.length_drop, List.length_take, iv_length, Nat.zero_add] at * <;> omega)) (fun A22 c23 w24 H => ?_)
      dsimp only [List.set] at H
      refine wc_run (T' := [(2, .slice A22 (((q ++ x) ++ y).length) c23), (3, .int .i64 0)]) (L2 := (ol [])) 2 [2, 3] (by kernel_rfl) ?_
      refine wc_nil rfl ?_
      refine n_np ?_
      refine n_sq ?_
      refine wn_ret (by kernel_rfl) ?_
      refine ret2 _ (Or.inr rfl) Try.results23 rfl rfl ?_
      have he25 : (wrM k f t a n x y) = ((q ++ x) ++ y) := by
        rw [hM1 hc4]
        obtain ⟨h1, h2, h3, h4⟩ := hi
        have e : i.toNat = 5 := by omega
        rw [h4, e, wrR]
      have he26 : wrE k f t a n x y = (0 : Int) := by
        exact hE1 hc4
      exact ⟨A22, c23, by first | (rw [he25, he26]; done) | (rw [he25, he26]; rfl) | (rw [he26]; done) | (rw [he26]; rfl), (by rw [he25]; exact H.sel [0] (by decide) rfl), by exact wrM_range hxb hyb, by exact get_of_mem (p := fun x => 0 ≤ x ∧ x < 256) (by omega) (wrM_range hxb hyb), by rw [wrM_len _ _ _ _ _ hx hy]; split <;> omega⟩
end Go.Proofs.Ytfeecdcanjkohaa
