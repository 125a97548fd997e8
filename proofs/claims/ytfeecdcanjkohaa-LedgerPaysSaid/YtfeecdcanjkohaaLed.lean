/-
  Walks of some of this seat's functions: each call's answer, and what it leaves of memory. No condition beside those that stand in each theorem.
-/
import Derived.Test.YtfeecdcanjkohaaRows
import Derived.Test.YtfeecdcanjkohaaRules
namespace Go.Proofs.Ytfeecdcanjkohaa
open Go.RowKit Go.Px

def tot : List Int → Int → Option Int
  | [], t => some t
  | x :: r, t => if x > 4611686018427387904 - t then none else tot r (t + x)
def totV (o : Option Int) : Int := o.getD 0
def totE (o : Option Int) : Int := if o.isSome then 0 else 4
theorem tot_step {p : List Int} {i : Nat} {t : Int} (h : i < p.length) : tot (p.drop i) t = if p.getD i 0 > 4611686018427387904 - t then none else tot (p.drop (i + 1)) (t + p.getD i 0) := by
  rw [List.drop_eq_getElem_cons h, tot]
  simp [List.getD_eq_getElem?_getD, h]
def B64 (p : List Int) : Prop := ∀ j, 0 ≤ p.getD j 0 ∧ p.getD j 0 < 18446744073709551616
def mayP (p : List Int) : Bool := (tot p 0).isSome
def payE (p : List Int) (f t a : Int) : Int := if mayP p = true ∧ 0 ≤ f ∧ f < 16 ∧ 0 ≤ t ∧ t < 16 then (if a > p.getD f.toNat 0 then 190 else 0) else 2
def payQ (p : List Int) (f a : Int) : List Int := p.set f.toNat (IntKind.u64.wrap (p.getD f.toNat 0 - a))
def payP (p : List Int) (f t a : Int) : List Int := if payE p f t a = 0 then (payQ p f a).set t.toNat (IntKind.u64.wrap ((payQ p f a).getD t.toNat 0 + a)) else List.replicate 16 0
def zeros : List Int := List.replicate 16 0
abbrev Mv := Int × Int × Int
def mvC (l : List Mv) : List Value := l.flatMap fun m => [.int .i64 m.1, .int .i64 m.2.1, .int .u64 m.2.2]
theorem mvC_length (l : List Mv) : (mvC l).length = l.length * 3 := by
  induction l with
  | nil => rfl
  | cons m l ih => simp only [mvC, List.flatMap_cons, List.length_append, List.length_cons, List.length_nil] at *; omega
theorem mvC_at : ∀ {l : List Mv} {j : Nat}, j < l.length → ((mvC l).drop (j * 3)).take 3 = [.int .i64 (l.getD j default).1, .int .i64 (l.getD j default).2.1, .int .u64 (l.getD j default).2.2]
  | [], j, h => by simp at h
  | m :: l, 0, _ => by simp [mvC]
  | m :: l, j + 1, h => by
    have := mvC_at (l := l) (j := j) (by simpa using h)
    simp only [mvC, List.flatMap_cons, List.getD_cons_succ] at *
    rw [show (j + 1) * 3 = 3 + j * 3 by omega, ← List.drop_drop]
    exact this
def U64m (l : List Mv) : Prop := ∀ j, 0 ≤ (l.getD j default).2.2 ∧ (l.getD j default).2.2 < 18446744073709551616
theorem B64_set {p : List Int} (h : B64 p) (j : Nat) (x : Int) : B64 (p.set j (IntKind.u64.wrap x)) := by
  intro i
  have hw : 0 ≤ IntKind.u64.wrap x ∧ IntKind.u64.wrap x < 18446744073709551616 := by simp [IntKind.wrap, IntKind.bits, IntKind.signed]; omega
  have := h i
  simp only [List.getD_eq_getElem?_getD, List.getElem?_set] at *
  split
  · split
    · simpa using hw
    · simp
  · exact this
theorem B64_of {p : List Int} (h : ∀ x ∈ p, 0 ≤ x ∧ x < 18446744073709551616) : B64 p := by
  intro i
  simp only [List.getD_eq_getElem?_getD]
  cases hp : p[i]? with
  | none => simp
  | some x => simpa using h x (List.mem_of_getElem? hp)
theorem B64_zeros : B64 zeros := by
  intro i
  simp only [zeros, List.getD_eq_getElem?_getD, List.getElem?_replicate]
  split <;> simp
theorem payP_length {p : List Int} (h : p.length = 16) (f t a : Int) : (payP p f t a).length = 16 := by
  unfold payP payQ; split <;> simp [h]
theorem payP_B64 {p : List Int} (h : B64 p) (f t a : Int) : B64 (payP p f t a) := by
  unfold payP
  split
  · exact B64_set (B64_set h _ _) _ _
  · exact B64_zeros
def allP : List Int → List Mv → Int → List Int × Int × Int
  | p, [], i => (p, i, 0)
  | p, m :: r, i => if payE p m.1 m.2.1 m.2.2 = 0 then allP (payP p m.1 m.2.1 m.2.2) r (i + 1) else (zeros, i, payE p m.1 m.2.1 m.2.2)
def allF (p : List Int) (l : List Mv) : List Int × Int × Int := if mayP p = true then allP p l 0 else (zeros, 0, 2)
theorem allP_step {p : List Int} {l : List Mv} {i : Nat} {k : Int} (h : i < l.length) : allP p (l.drop i) k =
    if payE p (l.getD i default).1 (l.getD i default).2.1 (l.getD i default).2.2 = 0 then allP (payP p (l.getD i default).1 (l.getD i default).2.1 (l.getD i default).2.2) (l.drop (i + 1)) (k + 1)
    else (zeros, k, payE p (l.getD i default).1 (l.getD i default).2.1 (l.getD i default).2.2) := by
  rw [List.drop_eq_getElem_cons h, allP]
  simp [List.getD_eq_getElem?_getD, h]

theorem B64_mem {p : List Int} (h : B64 p) : ∀ x ∈ p, 0 ≤ x ∧ x < 18446744073709551616 := by
  intro x hx
  obtain ⟨i, hi, rfl⟩ := List.mem_iff_getElem.1 hx
  have := h i
  simpa [List.getD_eq_getElem?_getD, hi] using this
theorem tot_sum : ∀ {p : List Int} {t : Int}, (∀ x ∈ p, 0 ≤ x) → 0 ≤ t → t ≤ 4611686018427387904 → tot p t = if t + p.sum ≤ 4611686018427387904 then some (t + p.sum) else none
  | [], t, _, h0, h1 => by simp [tot, h1]
  | x :: r, t, h, h0, h1 => by
    have hx : 0 ≤ x := h x (by simp)
    have hr : 0 ≤ r.sum := by
      have : ∀ {q : List Int}, (∀ x ∈ q, 0 ≤ x) → 0 ≤ q.sum := by
        intro q
        induction q with
        | nil => simp
        | cons y q ih => intro h; simp only [List.sum_cons]; have := h y (by simp); have := ih (fun z hz => h z (by simp [hz])); omega
      exact this (fun z hz => h z (by simp [hz]))
    rw [tot, List.sum_cons]
    split
    · rw [if_neg (by omega)]
    · rw [tot_sum (fun z hz => h z (by simp [hz])) (by omega) (by omega)]
      simp only [Int.add_assoc]
theorem sum_set : ∀ {p : List Int} {i : Nat} {x : Int}, i < p.length → (p.set i x).sum = p.sum - p.getD i 0 + x
  | [], i, x, h => by simp at h
  | y :: p, 0, x, _ => by simp; omega
  | y :: p, i + 1, x, h => by
    have := sum_set (p := p) (i := i) (x := x) (by simpa using h)
    simp only [List.set_cons_succ, List.sum_cons, List.getD_cons_succ] at *; omega
theorem le_sum : ∀ {p : List Int} {i : Nat}, (∀ x ∈ p, 0 ≤ x) → p.getD i 0 ≤ p.sum
  | [], i, _ => by simp
  | y :: p, 0, h => by
    have h1 := le_sum (p := p) (i := p.length) (fun z hz => h z (by simp [hz]))
    simp at h1 ⊢; omega
  | y :: p, i + 1, h => by
    have h1 := le_sum (p := p) (i := i) (fun z hz => h z (by simp [hz]))
    have := h y (by simp)
    simp only [List.sum_cons, List.getD_cons_succ] at *; omega
theorem le_sum2 : ∀ {p : List Int} {i j : Nat}, (∀ x ∈ p, 0 ≤ x) → i ≠ j → p.getD i 0 + p.getD j 0 ≤ p.sum
  | [], i, j, _, _ => by simp
  | y :: p, 0, 0, _, h => by simp at h
  | y :: p, 0, j + 1, h, _ => by
    have h1 := le_sum (p := p) (i := j) (fun z hz => h z (by simp [hz]))
    simp only [List.sum_cons, List.getD_cons_succ, List.getD_cons_zero]; omega
  | y :: p, i + 1, 0, h, _ => by
    have h1 := le_sum (p := p) (i := i) (fun z hz => h z (by simp [hz]))
    simp only [List.sum_cons, List.getD_cons_succ, List.getD_cons_zero]; omega
  | y :: p, i + 1, j + 1, h, hn => by
    have h1 := le_sum2 (p := p) (i := i) (j := j) (fun z hz => h z (by simp [hz])) (by omega)
    have := h y (by simp)
    simp only [List.sum_cons, List.getD_cons_succ] at *; omega
theorem getD_set (p : List Int) (i j : Nat) (x : Int) (h : i < p.length) : (p.set i x).getD j 0 = if i = j then x else p.getD j 0 := by
  simp only [List.getD_eq_getElem?_getD, List.getElem?_set]
  split
  · simp [h]
  · rfl
/-- A payment that is made: what it does, without overflow. -/
theorem pay_made {p : List Int} {f t a : Int} (hp : p.length = 16) (hb : B64 p) (ha : 0 ≤ a) (h : payE p f t a = 0) :
    p.sum ≤ 4611686018427387904 ∧ 0 ≤ f ∧ f < 16 ∧ 0 ≤ t ∧ t < 16 ∧ a ≤ p.getD f.toNat 0 ∧
    payP p f t a = (p.set f.toNat (p.getD f.toNat 0 - a)).set t.toNat ((p.set f.toNat (p.getD f.toNat 0 - a)).getD t.toNat 0 + a) := by
  have hm : ∀ x ∈ p, 0 ≤ x := fun x hx => (B64_mem hb x hx).1
  have h' := h
  unfold payE at h
  split at h
  · rename_i hh
    split at h
    · omega
    · obtain ⟨h1, h2, h3, h4, h5⟩ := hh
      have hs : p.sum ≤ 4611686018427387904 := by
        unfold mayP at h1; rw [tot_sum hm (by omega) (by omega)] at h1
        split at h1
        · omega
        · simp at h1
      refine ⟨hs, h2, h3, h4, h5, by omega, ?_⟩
      have hf := hb f.toNat
      have e1 : IntKind.u64.wrap (p.getD f.toNat 0 - a) = p.getD f.toNat 0 - a := wu64 (by omega) (by omega)
      unfold payP; rw [if_pos h']; unfold payQ; rw [e1]
      have e2 : (p.set f.toNat (p.getD f.toNat 0 - a)).getD t.toNat 0 + a ≤ 4611686018427387904 ∧ 0 ≤ (p.set f.toNat (p.getD f.toNat 0 - a)).getD t.toNat 0 + a := by
        rw [getD_set _ _ _ _ (by omega)]
        have ht := hb t.toNat
        split
        · have := le_sum (p := p) (i := f.toNat) hm; omega
        · have := le_sum2 (p := p) (i := f.toNat) (j := t.toNat) hm (by omega); omega
      rw [wu64 (by omega) (by omega)]
  · omega
theorem pay_sum {p : List Int} {f t a : Int} (hp : p.length = 16) (hb : B64 p) (ha : 0 ≤ a) (h : payE p f t a = 0) : (payP p f t a).sum = p.sum := by
  obtain ⟨h1, h2, h3, h4, h5, h6, h7⟩ := pay_made hp hb ha h
  rw [h7, sum_set (by simp; omega), sum_set (by omega)]; omega
theorem mayP_iff {p : List Int} (hb : B64 p) : mayP p = decide (p.sum ≤ 4611686018427387904) := by
  unfold mayP; rw [tot_sum (fun x hx => (B64_mem hb x hx).1) (by omega) (by omega)]
  by_cases h : p.sum ≤ 4611686018427387904 <;> simp [h]
theorem pay_back {p : List Int} {f t a : Int} (hp : p.length = 16) (hb : B64 p) (hb' : B64 (payP p f t a)) (ha : 0 ≤ a) (h : payE p f t a = 0) :
    payE (payP p f t a) t f a = 0 ∧ payP (payP p f t a) t f a = p := by
  obtain ⟨h1, h2, h3, h4, h5, h6, h7⟩ := pay_made hp hb ha h
  have hs := pay_sum hp hb ha h
  have hg : ∀ j, (payP p f t a).getD j 0 = if t.toNat = j then (if f.toNat = t.toNat then p.getD f.toNat 0 - a else p.getD t.toNat 0) + a else if f.toNat = j then p.getD f.toNat 0 - a else p.getD j 0 := by
    intro j
    rw [h7, getD_set _ _ _ _ (by simp; omega), getD_set _ _ _ _ (by omega), getD_set _ _ _ _ (by omega)]
  have hE : payE (payP p f t a) t f a = 0 := by
    unfold payE
    rw [if_pos ⟨by rw [mayP_iff hb']; simp; omega, h4, h5, h2, h3⟩, if_neg]
    rw [hg, if_pos rfl]
    have := hb t.toNat
    have := hb f.toNat
    split <;> omega
  refine ⟨hE, ?_⟩
  obtain ⟨-, -, -, -, -, g6, g7⟩ := pay_made (payP_length hp f t a) hb' ha hE
  rw [g7]
  have hl := payP_length hp f t a
  apply List.ext_getElem
  · simp [hl, hp]
  · intro j j1 j2
    have : ∀ (q : List Int) (hj : j < q.length), q[j] = q.getD j 0 := by intro q hj; simp [List.getD_eq_getElem?_getD, hj]
    rw [this _ j1, this _ j2, getD_set _ _ _ _ (by simp; omega), getD_set _ _ _ _ (by omega), getD_set _ _ _ _ (by omega), hg, hg, hg]
    by_cases e : f.toNat = t.toNat
    · simp only [e, if_true]
      by_cases k : t.toNat = j
      · simp only [k, if_true]; omega
      · simp only [k, if_false]
    · have e' : ¬ t.toNat = f.toNat := fun h => e h.symm
      simp only [e, e', if_true, if_false]
      by_cases k : f.toNat = j
      · rw [if_pos k, k]; omega
      · rw [if_neg k, if_neg k]
        by_cases k' : t.toNat = j
        · rw [if_pos k', k']; omega
        · simp only [k', if_false]
theorem all_keeps : ∀ {l : List Mv} {p : List Int} {i : Int}, p.length = 16 → B64 p → (∀ (q : List Int) (f t a : Int), B64 q → B64 (payP q f t a)) → (∀ m ∈ l, 0 ≤ m.2.2) → (allP p l i).2.2 = 0 → (allP p l i).1.sum = p.sum ∧ B64 (allP p l i).1
  | [], p, i, _, hb, _, _, _ => ⟨rfl, hb⟩
  | m :: l, p, i, hp, hb, hB, hm, h => by
    rw [allP] at h ⊢
    split
    · rename_i hh
      rw [if_pos hh] at h
      have := all_keeps (payP_length hp _ _ _) (hB _ _ _ _ hb) hB (fun x hx => hm x (by simp [hx])) h
      rw [this.1, pay_sum hp hb (hm m (by simp)) hh]
      exact ⟨rfl, this.2⟩
    · rename_i hh
      rw [if_neg hh] at h
      exact absurd h hh
theorem allP_ok : ∀ {l : List Mv} {p : List Int} {i : Int}, p.length = 16 → B64 p → (allP p l i).1.length = 16 ∧ B64 (allP p l i).1
  | [], p, i, hp, hb => ⟨hp, hb⟩
  | m :: l, p, i, hp, hb => by
    rw [allP]
    split
    · exact allP_ok (payP_length hp _ _ _) (payP_B64 hb _ _ _)
    · exact ⟨by simp [zeros], B64_zeros⟩
theorem allF_ok {l : List Mv} {p : List Int} (hp : p.length = 16) (hb : B64 p) : (allF p l).1.length = 16 ∧ B64 (allF p l).1 := by
  unfold allF
  split
  · exact allP_ok hp hb
  · exact ⟨by simp [zeros], B64_zeros⟩
theorem allF_keeps {l : List Mv} {p : List Int} (hp : p.length = 16) (hb : B64 p) (hB : ∀ (q : List Int) (f t a : Int), B64 q → B64 (payP q f t a)) (hm : ∀ m ∈ l, 0 ≤ m.2.2) (h : (allF p l).2.2 = 0) :
    totE (tot p 0) = 0 ∧ totE (tot (allF p l).1 0) = 0 ∧ totV (tot p 0) = totV (tot (allF p l).1 0) := by
  unfold allF at *
  by_cases hh : mayP p = true
  · rw [if_pos hh] at h ⊢
    obtain ⟨h1, h2⟩ := all_keeps hp hb hB hm h
    rw [mayP_iff hb] at hh
    rw [tot_sum (fun x hx => (B64_mem hb x hx).1) (by omega) (by omega), tot_sum (fun x hx => (B64_mem h2 x hx).1) (by omega) (by omega), h1]
    simp only [decide_eq_true_eq] at hh
    simp [hh, totE]
  · rw [if_neg hh] at h
    simp at h

noncomputable def cd_ledger_Total : Code := (Try.f13.body).getD .skip
theorem ledger_Total (w : World) (p : List Int) (hp : p.length = 16) (hb : B64 p) :
    Calls Try.prog 13 #[.agg (iv .u64 p).toArray] w (fun e w' => e = .returned (.tuple #[.int .u64 (totV (tot p 0)), .int .i64 (totE (tot p 0))]) ∧ Hp [] w w' []) := by
  refine enter (args := [_]) (c := cd_ledger_Total) (N := 24) Try.func13 (by kernel_rfl) (by kernel_rfl) (by simp) ?_
  have H := Hp.start w
  refine wn_seq (by kernel_rfl) ?_
  refine wn_reg 3 (by kernel_rfl) ?_
  refine wc_new H (some 1) (row (iv .u64 p) 24) (fun r => .pointer (some ⟨r, 0, none⟩)) (by kernel_rfl) (fun b1 w2 H => ?_)
  refine wc_run (T' := [(1, .pointer (some ⟨b1, 0, none⟩))]) (L2 := (rng 3 0)) 2 [1] (by kernel_rfl) ?_
  refine wc_nil rfl ?_
  refine n_sq ?_
  refine wn_seq (by kernel_rfl) ?_
  refine wn_reg 1 (by kernel_rfl) ?_
  refine wc_run (T' := [(1, .pointer (some ⟨b1, 0, none⟩)), (4, .int .u64 0)]) (L2 := (rng 1 0)) 1 [1, 4] (by kernel_rfl) ?_
  refine wc_nil rfl ?_
  refine n_sq ?_
  refine wn_seq (by kernel_rfl) ?_
  refine wn_seq (by kernel_rfl) ?_
  refine wn_reg 2 (by kernel_rfl) ?_
  refine wc_ld (b := b1) (off := 0) (some 7) 24 (.agg (iv .u64 p).toArray) (by kernel_rfl) (Ld.entW H 0 (n := 16) rfl (by kernel_rfl) (by exact (iv_length .u64 p).trans hp)) ?_
  refine wc_run (T' := [(4, .int .u64 0), (7, .agg (iv .u64 p).toArray), (8, .int .i64 0)]) (L2 := (rng 2 0)) 1 [4, 7, 8] (by kernel_rfl) ?_
  refine wc_nil rfl ?_
  refine n_sq ?_
  refine wn_block 0 (by kernel_rfl) ?_
  have H := H.sub (m' := []) (by simp)
  refine wn_loop (fun ((i, t) : Int × Int) => [(4, .int .u64 t), (7, .agg (iv .u64 p).toArray), (8, .int .i64 i)]) (fun ((i, t) : Int × Int) w' => Hp [] w w' [] ∧ 0 ≤ i ∧ i ≤ 16 ∧ 0 ≤ t ∧ t ≤ 4611686018427387904 ∧ tot (p.drop i.toNat) t = tot p 0) (fun ((i, t) : Int × Int) => (16 - i).toNat) ((0 : Int), (0 : Int)) [4, 7, 8] (by kernel_rfl) rfl ⟨H, by simp⟩ ?_
  rintro ⟨i, t⟩ w3 ⟨H, hi⟩
  try dsimp only at H hi
  refine wn_pick (T' := [(4, .int .u64 t), (7, .agg (iv .u64 p).toArray), (8, .int .i64 i)]) [4, 7, 8] (by kernel_rfl) ?_
  refine wn_seq (by kernel_rfl) ?_
  refine wn_reg 1 (by kernel_rfl) ?_
  refine wc_run (T' := [(4, .int .u64 t), (7, .agg (iv .u64 p).toArray), (8, .int .i64 i), (9, .bool (decide (i < (16 : Int))))]) (L2 := (rng 1 0)) 1 [4, 7, 8, 9] (by kernel_rfl) ?_
  refine wc_nil rfl ?_
  refine n_sq ?_
  refine wn_seq (by kernel_rfl) ?_
  refine wn_cond (.tmp 9) (decide (i < (16 : Int))) (by kernel_rfl) rfl (fun hc4 => ?_) (fun hc4 => ?_)
  · have hc4 := of_decide_eq_true hc4
    refine wn_skip (by kernel_rfl) ?_
    refine n_sq ?_
    refine wn_seq (by kernel_rfl) ?_
    refine wn_block 1 (by kernel_rfl) ?_
    refine wn_seq (by kernel_rfl) ?_
    refine wn_reg 2 (by kernel_rfl) ?_
    refine wc_iv (cs := (iv .u64 p)) (some 10) 22 16 1 i (.int .u64 (p.getD (i).toNat 0)) (by kernel_rfl) (by kernel_rfl) (by omega) (by omega) (Or.inl ⟨by kernel_rfl, by rw [Nat.mul_one]; exact iv_get (by have h : p.length = _ := hp; omega)⟩) ?_
    refine wc_run (T' := [(4, .int .u64 t), (6, .int .u64 (p.getD (i).toNat 0)), (7, .agg (iv .u64 p).toArray), (8, .int .i64 i)]) (L2 := (rng 2 0)) 1 [4, 6, 7, 8] (by kernel_rfl) ?_
    refine wc_nil rfl ?_
    refine n_sq ?_
    refine wn_seq (by kernel_rfl) ?_
    refine wn_seq (by kernel_rfl) ?_
    refine wn_reg 8 (by kernel_rfl) ?_
    refine wc_run (T' := [(4, .int .u64 t), (6, .int .u64 (p.getD (i).toNat 0)), (7, .agg (iv .u64 p).toArray), (8, .int .i64 i), (13, .bool (decide ((p.getD (i).toNat 0) > (4611686018427387904 : Int))))]) (L2 := (rng 3 5)) 3 [4, 6, 7, 8, 13] (by kernel_rfl) ?_
    by_cases hg5 : (p.getD (i).toNat 0) > (4611686018427387904 : Int)
    · rw [decide_eq_true hg5]
      refine wc_run (T' := [(4, .int .u64 t), (6, .int .u64 (p.getD (i).toNat 0)), (7, .agg (iv .u64 p).toArray), (8, .int .i64 i), (18, .bool true)]) (L2 := (rng 8 0)) 5 [4, 6, 7, 8, 18] (by kernel_rfl) ?_
      refine wc_nil rfl ?_
      refine n_sq ?_
      refine wn_condT (.tmp 18) (by kernel_rfl) rfl ?_
      refine wn_seq (by kernel_rfl) ?_
      refine wn_reg 2 (by kernel_rfl) ?_
      refine wc_run (T' := [(2, .int .u64 0), (3, .int .i64 4)]) (L2 := (rng 2 0)) 2 [2, 3] (by kernel_rfl) ?_
      refine wc_nil rfl ?_
      refine n_sq ?_
      refine wn_ret (by kernel_rfl) ?_
      refine r_sq ?_
      refine r_blk ?_
      refine r_sq ?_
      refine r_then ?_
      refine r_blk ?_
      refine r_sq ?_
      refine ret2 _ (Or.inr rfl) Try.results13 rfl rfl ?_
      have he6 : totV (tot p 0) = (0 : Int) := by
        obtain ⟨h1, h2, h3, h4, h5⟩ := hi
        have hx := hb i.toNat
        have hs := tot_step (p := p) (i := i.toNat) (t := t) (by omega)
        have hw : p.getD i.toNat 0 ≤ 4611686018427387904 → IntKind.u64.wrap (t + p.getD i.toNat 0) = t + p.getD i.toNat 0 := fun h => wu64 (by omega) (by omega)
        rw [if_pos (by omega)] at hs
        rw [← h5, hs]; rfl
      have he7 : totE (tot p 0) = (4 : Int) := by
        obtain ⟨h1, h2, h3, h4, h5⟩ := hi
        have hx := hb i.toNat
        have hs := tot_step (p := p) (i := i.toNat) (t := t) (by omega)
        have hw : p.getD i.toNat 0 ≤ 4611686018427387904 → IntKind.u64.wrap (t + p.getD i.toNat 0) = t + p.getD i.toNat 0 := fun h => wu64 (by omega) (by omega)
        rw [if_pos (by omega)] at hs
        rw [← h5, hs]; rfl
      exact ⟨by rw [he6, he7], H.nil⟩
    · rw [decide_eq_false hg5]
      refine wc_run (T' := [(4, .int .u64 t), (6, .int .u64 (p.getD (i).toNat 0)), (7, .agg (iv .u64 p).toArray), (8, .int .i64 i), (18, .bool (decide ((IntKind.u64.wrap (t + (p.getD (i).toNat 0))) > (4611686018427387904 : Int))))]) (L2 := (rng 8 0)) 5 [4, 6, 7, 8, 18] (by kernel_rfl) ?_
      refine wc_nil rfl ?_
      refine n_sq ?_
      refine wn_cond (.tmp 18) (decide ((IntKind.u64.wrap (t + (p.getD (i).toNat 0))) > (4611686018427387904 : Int))) (by kernel_rfl) rfl (fun hc8 => ?_) (fun hc8 => ?_)
      · have hc8 := of_decide_eq_true hc8
        refine wn_seq (by kernel_rfl) ?_
        refine wn_reg 2 (by kernel_rfl) ?_
        refine wc_run (T' := [(2, .int .u64 0), (3, .int .i64 4)]) (L2 := (rng 2 0)) 2 [2, 3] (by kernel_rfl) ?_
        refine wc_nil rfl ?_
        refine n_sq ?_
        refine wn_ret (by kernel_rfl) ?_
        refine r_sq ?_
        refine r_blk ?_
        refine r_sq ?_
        refine r_then ?_
        refine r_blk ?_
        refine r_sq ?_
        refine ret2 _ (Or.inr rfl) Try.results13 rfl rfl ?_
        have he9 : totV (tot p 0) = (0 : Int) := by
          obtain ⟨h1, h2, h3, h4, h5⟩ := hi
          have hx := hb i.toNat
          have hs := tot_step (p := p) (i := i.toNat) (t := t) (by omega)
          have hw : p.getD i.toNat 0 ≤ 4611686018427387904 → IntKind.u64.wrap (t + p.getD i.toNat 0) = t + p.getD i.toNat 0 := fun h => wu64 (by omega) (by omega)
          rw [if_pos (by omega)] at hs
          rw [← h5, hs]; rfl
        have he10 : totE (tot p 0) = (4 : Int) := by
          obtain ⟨h1, h2, h3, h4, h5⟩ := hi
          have hx := hb i.toNat
          have hs := tot_step (p := p) (i := i.toNat) (t := t) (by omega)
          have hw : p.getD i.toNat 0 ≤ 4611686018427387904 → IntKind.u64.wrap (t + p.getD i.toNat 0) = t + p.getD i.toNat 0 := fun h => wu64 (by omega) (by omega)
          rw [if_pos (by omega)] at hs
          rw [← h5, hs]; rfl
        exact ⟨by rw [he9, he10], H.nil⟩
      · have hc8 := of_decide_eq_false hc8
        refine wn_skip (by kernel_rfl) ?_
        refine n_sq ?_
        refine wn_reg 4 (by kernel_rfl) ?_
        refine wc_run (T' := [(4, .int .u64 (IntKind.u64.wrap (t + (p.getD (i).toNat 0)))), (7, .agg (iv .u64 p).toArray), (8, .int .i64 i)]) (L2 := (rng 4 0)) 4 [4, 7, 8] (by kernel_rfl) ?_
        refine wc_nil rfl ?_
        refine n_blk ?_
        refine n_sq ?_
        refine wn_reg 2 (by kernel_rfl) ?_
        refine wc_run (T' := [(4, .int .u64 (IntKind.u64.wrap (t + (p.getD (i).toNat 0)))), (7, .agg (iv .u64 p).toArray), (22, .int .i64 (IntKind.i64.wrap (i + 1)))]) (L2 := (rng 1 1)) 1 [4, 7, 22] (by kernel_rfl) ?_
        rw [wi64 (x := i + 1) (by omega) (by omega)]
        refine wc_run (T' := [(4, .int .u64 (IntKind.u64.wrap (t + (p.getD (i).toNat 0)))), (7, .agg (iv .u64 p).toArray), (8, .int .i64 (i + 1))]) (L2 := (rng 2 0)) 1 [4, 7, 8] (by kernel_rfl) ?_
        refine wc_nil rfl ?_
        refine round_end (i + 1, IntKind.u64.wrap (t + (p.getD (i).toNat 0))) [4, 7, 8] (by kernel_rfl) ⟨H, ?_⟩ ?_
        · obtain ⟨h1, h2, h3, h4, h5⟩ := hi
          have hx := hb i.toNat
          have hs := tot_step (p := p) (i := i.toNat) (t := t) (by omega)
          have he : (i + 1).toNat = i.toNat + 1 := by omega
          have hw : IntKind.u64.wrap (t + p.getD i.toNat 0) = t + p.getD i.toNat 0 := wu64 (by omega) (by omega)
          simp only [hw, he] at *
          rw [if_neg (by omega)] at hs
          exact ⟨by omega, by omega, by omega, by omega, by rw [← hs]; exact h5⟩
        · first | omega | (dsimp only; omega)
  · have hc4 := of_decide_eq_false hc4
    refine wn_exit 0 (by kernel_rfl) ?_
    refine e_sq ?_
    refine e_then ?_
    refine e_blk ?_
    refine n_sq ?_
    refine wn_seq (by kernel_rfl) ?_
    refine wn_reg 3 (by kernel_rfl) ?_
    refine wc_run (T' := [(2, .int .u64 t), (3, .int .i64 0)]) (L2 := (rng 3 0)) 3 [2, 3] (by kernel_rfl) ?_
    refine wc_nil rfl ?_
    refine n_sq ?_
    refine wn_ret (by kernel_rfl) ?_
    refine ret2 _ (Or.inr rfl) Try.results13 rfl rfl ?_
    have he11 : totV (tot p 0) = t := by
      obtain ⟨h1, h2, h3, h4, h5⟩ := hi
      have he : i.toNat = 16 := by omega
      rw [he, List.drop_eq_nil_of_le (by omega)] at h5
      rw [← h5]; rfl
    have he12 : totE (tot p 0) = (0 : Int) := by
      obtain ⟨h1, h2, h3, h4, h5⟩ := hi
      have he : i.toNat = 16 := by omega
      rw [he, List.drop_eq_nil_of_le (by omega)] at h5
      rw [← h5]; rfl
    exact ⟨by rw [he11, he12], H.nil⟩

noncomputable def cd_proctorref19_Total : Code := (Try.f14.body).getD .skip
theorem proctorref19_Total (w : World) (p : List Int) (hp : p.length = 16) (hb : B64 p) :
    Calls Try.prog 14 #[.agg (iv .u64 p).toArray] w (fun e w' => e = .returned (.tuple #[.int .u64 (totV (tot p 0)), .int .i64 (totE (tot p 0))]) ∧ Hp [] w w' []) := by
  refine enter (args := [_]) (c := cd_proctorref19_Total) (N := 22) Try.func14 (by kernel_rfl) (by kernel_rfl) (by simp) ?_
  have H := Hp.start w
  refine wn_seq (by kernel_rfl) ?_
  refine wn_reg 3 (by kernel_rfl) ?_
  refine wc_new H (some 1) (row (iv .u64 p) 24) (fun r => .pointer (some ⟨r, 0, none⟩)) (by kernel_rfl) (fun b1 w2 H => ?_)
  refine wc_run (T' := [(1, .pointer (some ⟨b1, 0, none⟩))]) (L2 := (rng 3 0)) 2 [1] (by kernel_rfl) ?_
  refine wc_nil rfl ?_
  refine n_sq ?_
  refine wn_seq (by kernel_rfl) ?_
  refine wn_reg 1 (by kernel_rfl) ?_
  refine wc_run (T' := [(1, .pointer (some ⟨b1, 0, none⟩)), (4, .int .u64 0)]) (L2 := (rng 1 0)) 1 [1, 4] (by kernel_rfl) ?_
  refine wc_nil rfl ?_
  refine n_sq ?_
  refine wn_seq (by kernel_rfl) ?_
  refine wn_seq (by kernel_rfl) ?_
  refine wn_reg 1 (by kernel_rfl) ?_
  refine wc_run (T' := [(1, .pointer (some ⟨b1, 0, none⟩)), (4, .int .u64 0), (5, .int .i64 0)]) (L2 := (rng 1 0)) 1 [1, 4, 5] (by kernel_rfl) ?_
  refine wc_nil rfl ?_
  refine n_sq ?_
  refine wn_block 0 (by kernel_rfl) ?_
  refine wn_loop (fun ((i, t) : Int × Int) => [(1, .pointer (some ⟨b1, 0, none⟩)), (4, .int .u64 t), (5, .int .i64 i)]) (fun ((i, t) : Int × Int) w' => Hp [] w w' [(b1, row (iv .u64 p) 24)] ∧ 0 ≤ i ∧ i ≤ 16 ∧ 0 ≤ t ∧ t ≤ 4611686018427387904 ∧ tot (p.drop i.toNat) t = tot p 0) (fun ((i, t) : Int × Int) => (16 - i).toNat) ((0 : Int), (0 : Int)) [1, 4, 5] (by kernel_rfl) rfl ⟨H, by simp⟩ ?_
  rintro ⟨i, t⟩ w3 ⟨H, hi⟩
  try dsimp only at H hi
  refine wn_pick (T' := [(1, .pointer (some ⟨b1, 0, none⟩)), (4, .int .u64 t), (5, .int .i64 i)]) [1, 4, 5] (by kernel_rfl) ?_
  refine wn_seq (by kernel_rfl) ?_
  refine wn_seq (by kernel_rfl) ?_
  refine wn_reg 2 (by kernel_rfl) ?_
  refine wc_run (T' := [(1, .pointer (some ⟨b1, 0, none⟩)), (4, .int .u64 t), (5, .int .i64 i), (7, .bool (decide (i < (16 : Int))))]) (L2 := (rng 2 0)) 2 [1, 4, 5, 7] (by kernel_rfl) ?_
  refine wc_nil rfl ?_
  refine n_sq ?_
  refine wn_cond (.tmp 7) (decide (i < (16 : Int))) (by kernel_rfl) rfl (fun hc4 => ?_) (fun hc4 => ?_)
  · have hc4 := of_decide_eq_true hc4
    refine wn_skip (by kernel_rfl) ?_
    refine n_sq ?_
    refine wn_seq (by kernel_rfl) ?_
    refine wn_block 1 (by kernel_rfl) ?_
    refine wn_seq (by kernel_rfl) ?_
    refine wn_seq (by kernel_rfl) ?_
    refine wn_reg 6 (by kernel_rfl) ?_
    refine wc_run (T' := [(1, .pointer (some ⟨b1, 0, none⟩)), (4, .int .u64 t), (5, .int .i64 i), (10, .int .i64 i)]) (L2 := (rng 1 5)) 1 [1, 4, 5, 10] (by kernel_rfl) ?_
    refine wc_ix (b := b1) (off := 0) (o' := i.toNat) (some 11) (some ⟨b1, 0, none⟩) 16 1 i (by kernel_rfl) rfl (by omega) (by omega) (by omega) ?_
    refine wc_ld (b := b1) (off := i.toNat) (some 12) 22 (.int .u64 (p.getD i.toNat 0)) (by kernel_rfl) (Ld.ent1 H 0 rfl (by kernel_rfl) (iv_get (by have h : p.length = _ := hp; omega))) ?_
    refine wc_run (T' := [(1, .pointer (some ⟨b1, 0, none⟩)), (4, .int .u64 t), (5, .int .i64 i), (15, .bool (decide ((p.getD i.toNat 0) > (IntKind.u64.wrap (4611686018427387904 - t)))))]) (L2 := (rng 6 0)) 3 [1, 4, 5, 15] (by kernel_rfl) ?_
    refine wc_nil rfl ?_
    refine n_sq ?_
    refine wn_cond (.tmp 15) (decide ((p.getD i.toNat 0) > (IntKind.u64.wrap (4611686018427387904 - t)))) (by kernel_rfl) rfl (fun hc5 => ?_) (fun hc5 => ?_)
    · have hc5 := of_decide_eq_true hc5
      refine wn_seq (by kernel_rfl) ?_
      refine wn_reg 2 (by kernel_rfl) ?_
      refine wc_run (T' := [(2, .int .u64 0), (3, .int .i64 4)]) (L2 := (rng 2 0)) 2 [2, 3] (by kernel_rfl) ?_
      refine wc_nil rfl ?_
      refine n_sq ?_
      refine wn_ret (by kernel_rfl) ?_
      refine r_sq ?_
      refine r_blk ?_
      refine r_sq ?_
      refine r_then ?_
      refine r_blk ?_
      refine r_sq ?_
      refine ret2 _ (Or.inr rfl) Try.results14 rfl rfl ?_
      have he6 : totV (tot p 0) = (0 : Int) := by
        obtain ⟨h1, h2, h3, h4, h5⟩ := hi
        have hx := hb i.toNat
        have hs := tot_step (p := p) (i := i.toNat) (t := t) (by omega)
        have hv : IntKind.u64.wrap (4611686018427387904 - t) = 4611686018427387904 - t := wu64 (by omega) (by omega)
        have hw : p.getD i.toNat 0 ≤ 4611686018427387904 → IntKind.u64.wrap (t + p.getD i.toNat 0) = t + p.getD i.toNat 0 := fun h => wu64 (by omega) (by omega)
        rw [if_pos (by omega)] at hs
        rw [← h5, hs]; rfl
      have he7 : totE (tot p 0) = (4 : Int) := by
        obtain ⟨h1, h2, h3, h4, h5⟩ := hi
        have hx := hb i.toNat
        have hs := tot_step (p := p) (i := i.toNat) (t := t) (by omega)
        have hv : IntKind.u64.wrap (4611686018427387904 - t) = 4611686018427387904 - t := wu64 (by omega) (by omega)
        have hw : p.getD i.toNat 0 ≤ 4611686018427387904 → IntKind.u64.wrap (t + p.getD i.toNat 0) = t + p.getD i.toNat 0 := fun h => wu64 (by omega) (by omega)
        rw [if_pos (by omega)] at hs
        rw [← h5, hs]; rfl
      exact ⟨by rw [he6, he7], H.nil⟩
    · have hc5 := of_decide_eq_false hc5
      refine wn_skip (by kernel_rfl) ?_
      refine n_sq ?_
      refine wn_reg 6 (by kernel_rfl) ?_
      refine wc_run (T' := [(1, .pointer (some ⟨b1, 0, none⟩)), (5, .int .i64 i), (16, .int .u64 t), (17, .int .i64 i)]) (L2 := (rng 2 4)) 2 [1, 5, 16, 17] (by kernel_rfl) ?_
      refine wc_ix (b := b1) (off := 0) (o' := i.toNat) (some 18) (some ⟨b1, 0, none⟩) 16 1 i (by kernel_rfl) rfl (by omega) (by omega) (by omega) ?_
      refine wc_ld (b := b1) (off := i.toNat) (some 19) 22 (.int .u64 (p.getD i.toNat 0)) (by kernel_rfl) (Ld.ent1 H 0 rfl (by kernel_rfl) (iv_get (by have h : p.length = _ := hp; omega))) ?_
      refine wc_run (T' := [(1, .pointer (some ⟨b1, 0, none⟩)), (4, .int .u64 (IntKind.u64.wrap (t + (p.getD i.toNat 0)))), (5, .int .i64 i)]) (L2 := (rng 6 0)) 2 [1, 4, 5] (by kernel_rfl) ?_
      refine wc_nil rfl ?_
      refine n_blk ?_
      refine n_sq ?_
      refine wn_reg 3 (by kernel_rfl) ?_
      refine wc_run (T' := [(1, .pointer (some ⟨b1, 0, none⟩)), (4, .int .u64 (IntKind.u64.wrap (t + (p.getD i.toNat 0)))), (9, .int .i64 (IntKind.i64.wrap (i + 1)))]) (L2 := (rng 2 1)) 2 [1, 4, 9] (by kernel_rfl) ?_
      rw [wi64 (x := i + 1) (by omega) (by omega)]
      refine wc_run (T' := [(1, .pointer (some ⟨b1, 0, none⟩)), (4, .int .u64 (IntKind.u64.wrap (t + (p.getD i.toNat 0)))), (5, .int .i64 (i + 1))]) (L2 := (rng 3 0)) 1 [1, 4, 5] (by kernel_rfl) ?_
      refine wc_nil rfl ?_
      refine round_end (i + 1, IntKind.u64.wrap (t + (p.getD i.toNat 0))) [1, 4, 5] (by kernel_rfl) ⟨H, ?_⟩ ?_
      · obtain ⟨h1, h2, h3, h4, h5⟩ := hi
        have hx := hb i.toNat
        have hs := tot_step (p := p) (i := i.toNat) (t := t) (by omega)
        have he : (i + 1).toNat = i.toNat + 1 := by omega
        have hv : IntKind.u64.wrap (4611686018427387904 - t) = 4611686018427387904 - t := wu64 (by omega) (by omega)
        have hw : IntKind.u64.wrap (t + p.getD i.toNat 0) = t + p.getD i.toNat 0 := wu64 (by omega) (by omega)
        simp only [hw, he] at *
        rw [if_neg (by omega)] at hs
        exact ⟨by omega, by omega, by omega, by omega, by rw [← hs]; exact h5⟩
      · first | omega | (dsimp only; omega)
  · have hc4 := of_decide_eq_false hc4
    refine wn_exit 0 (by kernel_rfl) ?_
    refine e_sq ?_
    refine e_then ?_
    refine e_blk ?_
    refine n_sq ?_
    refine wn_seq (by kernel_rfl) ?_
    refine wn_reg 3 (by kernel_rfl) ?_
    refine wc_run (T' := [(2, .int .u64 t), (3, .int .i64 0)]) (L2 := (rng 3 0)) 3 [2, 3] (by kernel_rfl) ?_
    refine wc_nil rfl ?_
    refine n_sq ?_
    refine wn_ret (by kernel_rfl) ?_
    refine ret2 _ (Or.inr rfl) Try.results14 rfl rfl ?_
    have he8 : totV (tot p 0) = t := by
      obtain ⟨h1, h2, h3, h4, h5⟩ := hi
      have he : i.toNat = 16 := by omega
      rw [he, List.drop_eq_nil_of_le (by omega)] at h5
      rw [← h5]; rfl
    have he9 : totE (tot p 0) = (0 : Int) := by
      obtain ⟨h1, h2, h3, h4, h5⟩ := hi
      have he : i.toNat = 16 := by omega
      rw [he, List.drop_eq_nil_of_le (by omega)] at h5
      rw [← h5]; rfl
    exact ⟨by rw [he8, he9], H.nil⟩

noncomputable def cd_ledger_May : Code := (Try.f17.body).getD .skip
theorem ledger_May (w : World) (p : List Int) (hp : p.length = 16) (hb : B64 p) :
    Calls Try.prog 17 #[.agg (iv .u64 p).toArray] w (fun e w' => e = .returned (.bool (mayP p)) ∧ Hp [] w w' []) := by
  refine enter (args := [_]) (c := cd_ledger_May) (N := 12) Try.func17 (by kernel_rfl) (by kernel_rfl) (by simp) ?_
  have H := Hp.start w
  refine wn_seq (by kernel_rfl) ?_
  refine wn_reg 2 (by kernel_rfl) ?_
  refine wc_new H (some 1) (row (iv .u64 p) 24) (fun r => .pointer (some ⟨r, 0, none⟩)) (by kernel_rfl) (fun b1 w2 H => ?_)
  refine wc_run (T' := [(1, .pointer (some ⟨b1, 0, none⟩))]) (L2 := (rng 2 0)) 1 [1] (by kernel_rfl) ?_
  refine wc_nil rfl ?_
  refine n_sq ?_
  refine wn_seq (by kernel_rfl) ?_
  refine wn_reg 7 (by kernel_rfl) ?_
  refine wc_ld (b := b1) (off := 0) (some 6) 24 (.agg (iv .u64 p).toArray) (by kernel_rfl) (Ld.entW H 0 (n := 16) rfl (by kernel_rfl) (by exact (iv_length .u64 p).trans hp)) ?_
  refine wc_call (some 7) (by kernel_rfl) (ledger_Total w2 p (by first | assumption | omega | (simp_all; done)) (by first | assumption | omega | (simp_all; done))) ?_
  rintro _ w3 ⟨rfl, H1⟩
  refine ⟨_, rfl, fun _ => H1.keep, ?_⟩
  replace H := H.call H1
  simp only [List.nil_append] at H
  refine wc_run (T' := [(4, .int .i64 (totE (tot p 0)))]) (L2 := (rng 7 0)) 5 [4] (by kernel_rfl) ?_
  refine wc_nil rfl ?_
  refine n_sq ?_
  refine wn_seq (by kernel_rfl) ?_
  refine wn_reg 3 (by kernel_rfl) ?_
  refine wc_run (T' := [(2, .bool ((totE (tot p 0)) == (0 : Int)))]) (L2 := (rng 3 0)) 3 [2] (by kernel_rfl) ?_
  refine wc_nil rfl ?_
  refine n_sq ?_
  refine wn_ret (by kernel_rfl) ?_
  refine ret1 _ (Or.inr rfl) Try.results17 rfl ?_
  have he4 : mayP p = ((totE (tot p 0)) == (0 : Int)) := by
    unfold mayP totE; split <;> simp_all
  exact ⟨by rw [he4], H.nil⟩

noncomputable def cd_proctorref19_May : Code := (Try.f18.body).getD .skip
theorem proctorref19_May (w : World) (p : List Int) (hp : p.length = 16) (hb : B64 p) :
    Calls Try.prog 18 #[.agg (iv .u64 p).toArray] w (fun e w' => e = .returned (.bool (mayP p)) ∧ Hp [] w w' []) := by
  refine enter (args := [_]) (c := cd_proctorref19_May) (N := 12) Try.func18 (by kernel_rfl) (by kernel_rfl) (by simp) ?_
  have H := Hp.start w
  refine wn_seq (by kernel_rfl) ?_
  refine wn_reg 2 (by kernel_rfl) ?_
  refine wc_new H (some 1) (row (iv .u64 p) 24) (fun r => .pointer (some ⟨r, 0, none⟩)) (by kernel_rfl) (fun b1 w2 H => ?_)
  refine wc_run (T' := [(1, .pointer (some ⟨b1, 0, none⟩))]) (L2 := (rng 2 0)) 1 [1] (by kernel_rfl) ?_
  refine wc_nil rfl ?_
  refine n_sq ?_
  refine wn_seq (by kernel_rfl) ?_
  refine wn_reg 7 (by kernel_rfl) ?_
  refine wc_ld (b := b1) (off := 0) (some 6) 24 (.agg (iv .u64 p).toArray) (by kernel_rfl) (Ld.entW H 0 (n := 16) rfl (by kernel_rfl) (by exact (iv_length .u64 p).trans hp)) ?_
  refine wc_call (some 7) (by kernel_rfl) (proctorref19_Total w2 p (by first | assumption | omega | (simp_all; done)) (by first | assumption | omega | (simp_all; done))) ?_
  rintro _ w3 ⟨rfl, H1⟩
  refine ⟨_, rfl, fun _ => H1.keep, ?_⟩
  replace H := H.call H1
  simp only [List.nil_append] at H
  refine wc_run (T' := [(4, .int .i64 (totE (tot p 0)))]) (L2 := (rng 7 0)) 5 [4] (by kernel_rfl) ?_
  refine wc_nil rfl ?_
  refine n_sq ?_
  refine wn_seq (by kernel_rfl) ?_
  refine wn_reg 3 (by kernel_rfl) ?_
  refine wc_run (T' := [(2, .bool ((totE (tot p 0)) == (0 : Int)))]) (L2 := (rng 3 0)) 3 [2] (by kernel_rfl) ?_
  refine wc_nil rfl ?_
  refine n_sq ?_
  refine wn_ret (by kernel_rfl) ?_
  refine ret1 _ (Or.inr rfl) Try.results18 rfl ?_
  have he4 : mayP p = ((totE (tot p 0)) == (0 : Int)) := by
    unfold mayP totE; split <;> simp_all
  exact ⟨by rw [he4], H.nil⟩

noncomputable def cd_ledger_Pay_1 : Code := (Try.f50.body).getD .skip
theorem ledger_Pay_1 (w : World) (x : Int)  :
    Calls Try.prog 50 #[.int .i64 x] w (fun e w' => e = .returned (.bool (decide (0 ≤ x ∧ x < 16))) ∧ Hp [] w w' []) := by
  refine enter (args := [_]) (c := cd_ledger_Pay_1) (N := 9) Try.func50 (by kernel_rfl) (by kernel_rfl) (by simp) ?_
  have H := Hp.start w
  refine wn_seq (by kernel_rfl) ?_
  refine wn_reg 1 (by kernel_rfl) ?_
  refine wc_run (T' := [(0, .int .i64 x)]) (L2 := (rng 1 0)) 1 [0] (by kernel_rfl) ?_
  refine wc_nil rfl ?_
  refine n_sq ?_
  refine wn_seq (by kernel_rfl) ?_
  refine wn_reg 7 (by kernel_rfl) ?_
  refine wc_run (T' := [(0, .int .i64 x), (5, .bool (decide (x ≥ (0 : Int))))]) (L2 := (rng 3 4)) 3 [0, 5] (by kernel_rfl) ?_
  by_cases hg1 : x ≥ (0 : Int)
  · rw [decide_eq_true hg1]
    refine wc_run (T' := [(2, .bool (decide (x < (16 : Int))))]) (L2 := (rng 7 0)) 4 [2] (by kernel_rfl) ?_
    refine wc_nil rfl ?_
    refine n_sq ?_
    refine wn_ret (by kernel_rfl) ?_
    refine ret1 _ (Or.inr rfl) Try.results50 rfl ?_
    have he2 : decide (0 ≤ x ∧ x < 16) = decide (x < (16 : Int)) := by
      simp; omega
    exact ⟨by rw [he2], H.nil⟩
  · rw [decide_eq_false hg1]
    refine wc_run (T' := [(2, .bool false)]) (L2 := (rng 7 0)) 4 [2] (by kernel_rfl) ?_
    refine wc_nil rfl ?_
    refine n_sq ?_
    refine wn_ret (by kernel_rfl) ?_
    refine ret1 _ (Or.inr rfl) Try.results50 rfl ?_
    have he3 : decide (0 ≤ x ∧ x < 16) = false := by
      simp; omega
    exact ⟨by rw [he3], H.nil⟩

noncomputable def cd_ledger_Pay : Code := (Try.f19.body).getD .skip
theorem ledger_Pay (w : World) (p : List Int) (f : Int) (t : Int) (a : Int) (hp : p.length = 16) (hb : B64 p) :
    Calls Try.prog 19 #[.agg (iv .u64 p).toArray, .agg #[.int .i64 f, .int .i64 t, .int .u64 a]] w (fun e w' => e = .returned (.tuple #[.agg (iv .u64 (payP p f t a)).toArray, .int .i64 (payE p f t a)]) ∧ Hp [] w w' [] ∧ (payP p f t a).length = 16 ∧ B64 (payP p f t a)) := by
  refine enter (args := [_, _]) (c := cd_ledger_Pay) (N := 52) Try.func19 (by kernel_rfl) (by kernel_rfl) (by simp) ?_
  have H := Hp.start w
  refine wn_seq (by kernel_rfl) ?_
  refine wn_reg 4 (by kernel_rfl) ?_
  refine wc_new H (some 2) (row (iv .u64 p) 24) (fun r => .pointer (some ⟨r, 0, none⟩)) (by kernel_rfl) (fun b1 w2 H => ?_)
  refine wc_new H (some 3) (row ([.int .i64 f, .int .i64 t, .int .u64 a]) 39) (fun r => .pointer (some ⟨r, 0, none⟩)) (by kernel_rfl) (fun b3 w4 H => ?_)
  refine wc_new H (some 4) (row (iv .u64 (List.replicate 16 0)) 24) (fun r => .pointer (some ⟨r, 0, none⟩)) (by kernel_rfl) (fun b5 w6 H => ?_)
  refine wc_run (T' := [(2, .pointer (some ⟨b1, 0, none⟩)), (3, .pointer (some ⟨b3, 0, none⟩)), (4, .pointer (some ⟨b5, 0, none⟩))]) (L2 := (rng 4 0)) 1 [2, 3, 4] (by kernel_rfl) ?_
  refine wc_nil rfl ?_
  refine n_sq ?_
  refine wn_seq (by kernel_rfl) ?_
  refine wn_reg 1 (by kernel_rfl) ?_
  refine wc_run (T' := [(2, .pointer (some ⟨b1, 0, none⟩)), (3, .pointer (some ⟨b3, 0, none⟩)), (4, .pointer (some ⟨b5, 0, none⟩)), (6, .func (.func 50) #[] #[])]) (L2 := (rng 1 0)) 1 [2, 3, 4, 6] (by kernel_rfl) ?_
  refine wc_nil rfl ?_
  refine n_sq ?_
  refine wn_seq (by kernel_rfl) ?_
  refine wn_block 0 (by kernel_rfl) ?_
  refine wn_seq (by kernel_rfl) ?_
  refine wn_reg 18 (by kernel_rfl) ?_
  refine wc_ld (b := b1) (off := 0) (some 8) 24 (.agg (iv .u64 p).toArray) (by kernel_rfl) (Ld.entW H 2 (n := 16) rfl (by kernel_rfl) (by exact (iv_length .u64 p).trans hp)) ?_
  refine wc_call (some 9) (by kernel_rfl) (ledger_May w6 p (by first | assumption | omega | (simp_all; done)) (by first | assumption | omega | (simp_all; done))) ?_
  rintro _ w7 ⟨rfl, H1⟩
  refine ⟨_, rfl, fun _ => H1.keep, ?_⟩
  replace H := H.call H1
  simp only [List.nil_append] at H
  refine wc_run (T' := [(2, .pointer (some ⟨b1, 0, none⟩)), (3, .pointer (some ⟨b3, 0, none⟩)), (4, .pointer (some ⟨b5, 0, none⟩)), (6, .func (.func 50) #[] #[]), (11, .bool (!(mayP p)))]) (L2 := (rng 4 14)) 2 [2, 3, 4, 6, 11] (by kernel_rfl) ?_
  rcases Bool.eq_false_or_eq_true (!(mayP p)) with hg8 | hg8
  · rw [hg8]
    have hg8 := notT hg8
    refine wc_run (T' := [(2, .pointer (some ⟨b1, 0, none⟩)), (3, .pointer (some ⟨b3, 0, none⟩)), (4, .pointer (some ⟨b5, 0, none⟩)), (6, .func (.func 50) #[] #[]), (11, .bool true), (12, .tuple #[]), (14, .tuple #[])]) (L2 := (rng 7 11)) 3 [2, 3, 4, 6, 11, 12, 14] (by kernel_rfl) ?_
    refine wc_skip (some 15) (by kernel_rfl) ?_
    refine wc_run (T' := [(2, .pointer (some ⟨b1, 0, none⟩)), (3, .pointer (some ⟨b3, 0, none⟩)), (4, .pointer (some ⟨b5, 0, none⟩)), (18, .bool true), (19, .tuple #[]), (21, .tuple #[])]) (L2 := (rng 14 4)) 6 [2, 3, 4, 18, 19, 21] (by kernel_rfl) ?_
    refine wc_skip (some 22) (by kernel_rfl) ?_
    refine wc_run (T' := [(2, .pointer (some ⟨b1, 0, none⟩)), (3, .pointer (some ⟨b3, 0, none⟩)), (4, .pointer (some ⟨b5, 0, none⟩)), (7, .bool true)]) (L2 := (rng 18 0)) 3 [2, 3, 4, 7] (by kernel_rfl) ?_
    refine wc_nil rfl ?_
    refine n_sq ?_
    refine wn_condT (.tmp 7) (by kernel_rfl) rfl ?_
    refine wn_seq (by kernel_rfl) ?_
    refine wn_reg 3 (by kernel_rfl) ?_
    refine wc_run (T' := [(4, .pointer (some ⟨b5, 0, none⟩)), (25, .agg (iv .u64 (List.replicate 16 0)).toArray)]) (L2 := (rng 1 2)) 1 [4, 25] (by kernel_rfl) ?_
    refine wc_st (b := b5) (off := 0) (Tb := 24) (vs := (iv .u64 (List.replicate 16 0))) (cs' := (iv .u64 (List.replicate 16 0))) H 0 24 (.agg (iv .u64 (List.replicate 16 0)).toArray) 16 (by kernel_rfl) rfl rfl (by exact (iv_length .u64 (List.replicate 16 0)).trans List.length_replicate) (by have h := (iv_length .u64 (List.replicate 16 0)).trans List.length_replicate; omega) (by exact iv_flat _ _) (by exact blit_all _ _ (((iv_length .u64 (List.replicate 16 0)).trans List.length_replicate).trans ((iv_length .u64 (List.replicate 16 0)).trans List.length_replicate).symm)) (fun w9 H => ?_)
    dsimp only [List.set] at H
    refine wc_run (T' := [(4, .pointer (some ⟨b5, 0, none⟩)), (5, .int .i64 2)]) (L2 := (rng 3 0)) 1 [4, 5] (by kernel_rfl) ?_
    refine wc_nil rfl ?_
    refine n_sq ?_
    refine wn_ret (by kernel_rfl) ?_
    refine r_blk ?_
    refine r_sq ?_
    refine ret2 _ (Or.inr rfl) Try.results19 ⟨_, _, rfl, Ld.entW H 0 (n := 16) rfl (by kernel_rfl) (by exact (iv_length .u64 (List.replicate 16 0)).trans List.length_replicate)⟩ rfl ?_
    have he10 : payP p f t a = (List.replicate 16 0) := by
      unfold payP; rw [if_neg (by unfold payE; split <;> simp_all <;> omega)]
    have he11 : payE p f t a = (2 : Int) := by
      unfold payE; split <;> simp_all <;> omega
    exact ⟨by rw [he10, he11], H.nil, by exact payP_length hp _ _ _, by exact payP_B64 hb _ _ _⟩
  · rw [hg8]
    have hg8 := notF hg8
    refine wc_run (T' := [(2, .pointer (some ⟨b1, 0, none⟩)), (3, .pointer (some ⟨b3, 0, none⟩)), (4, .pointer (some ⟨b5, 0, none⟩)), (6, .func (.func 50) #[] #[]), (11, .bool false), (12, .func (.func 50) #[] #[]), (13, .pointer (some ⟨b3, 0, none⟩))]) (L2 := (rng 6 12)) 2 [2, 3, 4, 6, 11, 12, 13] (by kernel_rfl) ?_
    refine wc_ld (b := b3) (off := 0) (some 14) 3 (.int .i64 f) (by kernel_rfl) (Ld.ent1 H 1 rfl (by kernel_rfl) (by rfl)) ?_
    refine wc_call (some 15) (by kernel_rfl) (ledger_Pay_1 w7 f) ?_
    rintro _ w12 ⟨rfl, H1⟩
    refine ⟨_, rfl, fun _ => H1.keep, ?_⟩
    replace H := H.call H1
    simp only [List.nil_append] at H
    refine wc_run (T' := [(2, .pointer (some ⟨b1, 0, none⟩)), (3, .pointer (some ⟨b3, 0, none⟩)), (4, .pointer (some ⟨b5, 0, none⟩)), (6, .func (.func 50) #[] #[]), (18, .bool (!decide (0 ≤ f ∧ f < 16)))]) (L2 := (rng 11 7)) 3 [2, 3, 4, 6, 18] (by kernel_rfl) ?_
    rcases Bool.eq_false_or_eq_true (!decide (0 ≤ f ∧ f < 16)) with hg13 | hg13
    · rw [hg13]
      have hg13 := ndT hg13
      refine wc_run (T' := [(2, .pointer (some ⟨b1, 0, none⟩)), (3, .pointer (some ⟨b3, 0, none⟩)), (4, .pointer (some ⟨b5, 0, none⟩)), (18, .bool true), (19, .tuple #[]), (21, .tuple #[])]) (L2 := (rng 14 4)) 3 [2, 3, 4, 18, 19, 21] (by kernel_rfl) ?_
      refine wc_skip (some 22) (by kernel_rfl) ?_
      refine wc_run (T' := [(2, .pointer (some ⟨b1, 0, none⟩)), (3, .pointer (some ⟨b3, 0, none⟩)), (4, .pointer (some ⟨b5, 0, none⟩)), (7, .bool true)]) (L2 := (rng 18 0)) 3 [2, 3, 4, 7] (by kernel_rfl) ?_
      refine wc_nil rfl ?_
      refine n_sq ?_
      refine wn_condT (.tmp 7) (by kernel_rfl) rfl ?_
      refine wn_seq (by kernel_rfl) ?_
      refine wn_reg 3 (by kernel_rfl) ?_
      refine wc_run (T' := [(4, .pointer (some ⟨b5, 0, none⟩)), (25, .agg (iv .u64 (List.replicate 16 0)).toArray)]) (L2 := (rng 1 2)) 1 [4, 25] (by kernel_rfl) ?_
      refine wc_st (b := b5) (off := 0) (Tb := 24) (vs := (iv .u64 (List.replicate 16 0))) (cs' := (iv .u64 (List.replicate 16 0))) H 0 24 (.agg (iv .u64 (List.replicate 16 0)).toArray) 16 (by kernel_rfl) rfl rfl (by exact (iv_length .u64 (List.replicate 16 0)).trans List.length_replicate) (by have h := (iv_length .u64 (List.replicate 16 0)).trans List.length_replicate; omega) (by exact iv_flat _ _) (by exact blit_all _ _ (((iv_length .u64 (List.replicate 16 0)).trans List.length_replicate).trans ((iv_length .u64 (List.replicate 16 0)).trans List.length_replicate).symm)) (fun w14 H => ?_)
      dsimp only [List.set] at H
      refine wc_run (T' := [(4, .pointer (some ⟨b5, 0, none⟩)), (5, .int .i64 2)]) (L2 := (rng 3 0)) 1 [4, 5] (by kernel_rfl) ?_
      refine wc_nil rfl ?_
      refine n_sq ?_
      refine wn_ret (by kernel_rfl) ?_
      refine r_blk ?_
      refine r_sq ?_
      refine ret2 _ (Or.inr rfl) Try.results19 ⟨_, _, rfl, Ld.entW H 0 (n := 16) rfl (by kernel_rfl) (by exact (iv_length .u64 (List.replicate 16 0)).trans List.length_replicate)⟩ rfl ?_
      have he15 : payP p f t a = (List.replicate 16 0) := by
        unfold payP; rw [if_neg (by unfold payE; split <;> simp_all <;> omega)]
      have he16 : payE p f t a = (2 : Int) := by
        unfold payE; split <;> simp_all <;> omega
      exact ⟨by rw [he15, he16], H.nil, by exact payP_length hp _ _ _, by exact payP_B64 hb _ _ _⟩
    · rw [hg13]
      have hg13 := ndF hg13
      refine wc_run (T' := [(2, .pointer (some ⟨b1, 0, none⟩)), (3, .pointer (some ⟨b3, 0, none⟩)), (4, .pointer (some ⟨b5, 0, none⟩)), (18, .bool false), (19, .func (.func 50) #[] #[]), (20, .pointer (some ⟨b3, 1, none⟩))]) (L2 := (rng 13 5)) 2 [2, 3, 4, 18, 19, 20] (by kernel_rfl) ?_
      refine wc_ld (b := b3) (off := 1) (some 21) 3 (.int .i64 t) (by kernel_rfl) (Ld.ent1 H 1 rfl (by kernel_rfl) (by rfl)) ?_
      refine wc_call (some 22) (by kernel_rfl) (ledger_Pay_1 w12 t) ?_
      rintro _ w17 ⟨rfl, H1⟩
      refine ⟨_, rfl, fun _ => H1.keep, ?_⟩
      replace H := H.call H1
      simp only [List.nil_append] at H
      refine wc_run (T' := [(2, .pointer (some ⟨b1, 0, none⟩)), (3, .pointer (some ⟨b3, 0, none⟩)), (4, .pointer (some ⟨b5, 0, none⟩)), (7, .bool (!decide (0 ≤ t ∧ t < 16)))]) (L2 := (rng 18 0)) 3 [2, 3, 4, 7] (by kernel_rfl) ?_
      refine wc_nil rfl ?_
      refine n_sq ?_
      refine wn_cond (.tmp 7) (!decide (0 ≤ t ∧ t < 16)) (by kernel_rfl) rfl (fun hc18 => ?_) (fun hc18 => ?_)
      · have hc18 := ndT hc18
        refine wn_seq (by kernel_rfl) ?_
        refine wn_reg 3 (by kernel_rfl) ?_
        refine wc_run (T' := [(4, .pointer (some ⟨b5, 0, none⟩)), (25, .agg (iv .u64 (List.replicate 16 0)).toArray)]) (L2 := (rng 1 2)) 1 [4, 25] (by kernel_rfl) ?_
        refine wc_st (b := b5) (off := 0) (Tb := 24) (vs := (iv .u64 (List.replicate 16 0))) (cs' := (iv .u64 (List.replicate 16 0))) H 0 24 (.agg (iv .u64 (List.replicate 16 0)).toArray) 16 (by kernel_rfl) rfl rfl (by exact (iv_length .u64 (List.replicate 16 0)).trans List.length_replicate) (by have h := (iv_length .u64 (List.replicate 16 0)).trans List.length_replicate; omega) (by exact iv_flat _ _) (by exact blit_all _ _ (((iv_length .u64 (List.replicate 16 0)).trans List.length_replicate).trans ((iv_length .u64 (List.replicate 16 0)).trans List.length_replicate).symm)) (fun w19 H => ?_)
        dsimp only [List.set] at H
        refine wc_run (T' := [(4, .pointer (some ⟨b5, 0, none⟩)), (5, .int .i64 2)]) (L2 := (rng 3 0)) 1 [4, 5] (by kernel_rfl) ?_
        refine wc_nil rfl ?_
        refine n_sq ?_
        refine wn_ret (by kernel_rfl) ?_
        refine r_blk ?_
        refine r_sq ?_
        refine ret2 _ (Or.inr rfl) Try.results19 ⟨_, _, rfl, Ld.entW H 0 (n := 16) rfl (by kernel_rfl) (by exact (iv_length .u64 (List.replicate 16 0)).trans List.length_replicate)⟩ rfl ?_
        have he20 : payP p f t a = (List.replicate 16 0) := by
          unfold payP; rw [if_neg (by unfold payE; split <;> simp_all <;> omega)]
        have he21 : payE p f t a = (2 : Int) := by
          unfold payE; split <;> simp_all <;> omega
        exact ⟨by rw [he20, he21], H.nil, by exact payP_length hp _ _ _, by exact payP_B64 hb _ _ _⟩
      · have hc18 := ndF hc18
        refine wn_seq (by kernel_rfl) ?_
        refine wn_regD [] (ol [0, 1, 2, 3, 4, 5, 6, 7]) (by kernel_rfl) H (fun w22 H => ?_)
        refine wc_run (T' := [(2, .pointer (some ⟨b1, 0, none⟩)), (3, .pointer (some ⟨b3, 0, none⟩)), (4, .pointer (some ⟨b5, 0, none⟩)), (27, .pointer (some ⟨b3, 2, none⟩))]) (L2 := (ol [1, 2, 3, 4, 5, 6, 7])) 1 [2, 3, 4, 27] (by kernel_rfl) ?_
        refine wc_ld (b := b3) (off := 2) (some 28) 22 (.int .u64 a) (by kernel_rfl) (Ld.ent1 H 1 rfl (by kernel_rfl) (by rfl)) ?_
        refine wc_run (T' := [(2, .pointer (some ⟨b1, 0, none⟩)), (3, .pointer (some ⟨b3, 0, none⟩)), (4, .pointer (some ⟨b5, 0, none⟩)), (28, .int .u64 a), (29, .pointer (some ⟨b3, 0, none⟩))]) (L2 := (ol [3, 4, 5, 6, 7])) 1 [2, 3, 4, 28, 29] (by kernel_rfl) ?_
        refine wc_ld (b := b3) (off := 0) (some 30) 3 (.int .i64 f) (by kernel_rfl) (Ld.ent1 H 1 rfl (by kernel_rfl) (by rfl)) ?_
        refine wc_ix (b := b1) (off := 0) (o' := f.toNat) (some 31) (some ⟨b1, 0, none⟩) 16 1 f (by kernel_rfl) rfl (by omega) (by omega) (by omega) ?_
        refine wc_ld (b := b1) (off := f.toNat) (some 32) 22 (.int .u64 (p.getD f.toNat 0)) (by kernel_rfl) (Ld.ent1 H 2 rfl (by kernel_rfl) (iv_get (by have h : p.length = _ := hp; omega))) ?_
        refine wc_run (T' := [(2, .pointer (some ⟨b1, 0, none⟩)), (3, .pointer (some ⟨b3, 0, none⟩)), (4, .pointer (some ⟨b5, 0, none⟩)), (26, .bool (decide (a > (p.getD f.toNat 0))))]) (L2 := (ol [])) 2 [2, 3, 4, 26] (by kernel_rfl) ?_
        refine wc_nil rfl ?_
        refine n_np ?_
        refine n_sq ?_
        refine wn_cond (.tmp 26) (decide (a > (p.getD f.toNat 0))) (by kernel_rfl) rfl (fun hc23 => ?_) (fun hc23 => ?_)
        · have hc23 := of_decide_eq_true hc23
          refine wn_seq (by kernel_rfl) ?_
          refine wn_reg 3 (by kernel_rfl) ?_
          refine wc_run (T' := [(4, .pointer (some ⟨b5, 0, none⟩)), (34, .agg (iv .u64 (List.replicate 16 0)).toArray)]) (L2 := (rng 1 2)) 1 [4, 34] (by kernel_rfl) ?_
          refine wc_st (b := b5) (off := 0) (Tb := 24) (vs := (iv .u64 (List.replicate 16 0))) (cs' := (iv .u64 (List.replicate 16 0))) H 0 24 (.agg (iv .u64 (List.replicate 16 0)).toArray) 16 (by kernel_rfl) rfl rfl (by exact (iv_length .u64 (List.replicate 16 0)).trans List.length_replicate) (by have h := (iv_length .u64 (List.replicate 16 0)).trans List.length_replicate; omega) (by exact iv_flat _ _) (by exact blit_all _ _ (((iv_length .u64 (List.replicate 16 0)).trans List.length_replicate).trans ((iv_length .u64 (List.replicate 16 0)).trans List.length_replicate).symm)) (fun w24 H => ?_)
          dsimp only [List.set] at H
          refine wc_run (T' := [(4, .pointer (some ⟨b5, 0, none⟩)), (5, .int .i64 190)]) (L2 := (rng 3 0)) 1 [4, 5] (by kernel_rfl) ?_
          refine wc_nil rfl ?_
          refine n_sq ?_
          refine wn_ret (by kernel_rfl) ?_
          refine r_blk ?_
          refine r_sq ?_
          refine ret2 _ (Or.inr rfl) Try.results19 ⟨_, _, rfl, Ld.entW H 0 (n := 16) rfl (by kernel_rfl) (by exact (iv_length .u64 (List.replicate 16 0)).trans List.length_replicate)⟩ rfl ?_
          have he25 : payP p f t a = (List.replicate 16 0) := by
            unfold payP; rw [if_neg (by unfold payE; split <;> simp_all <;> omega)]
          have he26 : payE p f t a = (190 : Int) := by
            unfold payE; split <;> simp_all <;> omega
          exact ⟨by rw [he25, he26], H.nil, by exact payP_length hp _ _ _, by exact payP_B64 hb _ _ _⟩
        · have hc23 := of_decide_eq_false hc23
          refine wn_skip (by kernel_rfl) ?_
          refine n_blk ?_
          refine n_sq ?_
          refine wn_seq (by kernel_rfl) ?_
          refine wn_regD [] (ol [0, 1, 2, 3, 4, 5, 6, 7, 8]) (by kernel_rfl) H (fun w27 H => ?_)
          refine wc_run (T' := [(2, .pointer (some ⟨b1, 0, none⟩)), (3, .pointer (some ⟨b3, 0, none⟩)), (4, .pointer (some ⟨b5, 0, none⟩)), (35, .pointer (some ⟨b3, 0, none⟩))]) (L2 := (ol [1, 2, 3, 4, 5, 6, 7, 8])) 1 [2, 3, 4, 35] (by kernel_rfl) ?_
          refine wc_ld (b := b3) (off := 0) (some 36) 3 (.int .i64 f) (by kernel_rfl) (Ld.ent1 H 1 rfl (by kernel_rfl) (by rfl)) ?_
          refine wc_ix (b := b1) (off := 0) (o' := f.toNat) (some 37) (some ⟨b1, 0, none⟩) 16 1 f (by kernel_rfl) rfl (by omega) (by omega) (by omega) ?_
          refine wc_ld (b := b1) (off := f.toNat) (some 38) 22 (.int .u64 (p.getD f.toNat 0)) (by kernel_rfl) (Ld.ent1 H 2 rfl (by kernel_rfl) (iv_get (by have h : p.length = _ := hp; omega))) ?_
          refine wc_run (T' := [(2, .pointer (some ⟨b1, 0, none⟩)), (3, .pointer (some ⟨b3, 0, none⟩)), (4, .pointer (some ⟨b5, 0, none⟩)), (36, .int .i64 f), (38, .int .u64 (p.getD f.toNat 0)), (39, .pointer (some ⟨b3, 2, none⟩))]) (L2 := (ol [5, 6, 7, 8])) 1 [2, 3, 4, 36, 38, 39] (by kernel_rfl) ?_
          refine wc_ld (b := b3) (off := 2) (some 40) 22 (.int .u64 a) (by kernel_rfl) (Ld.ent1 H 1 rfl (by kernel_rfl) (by rfl)) ?_
          refine wc_run (T' := [(2, .pointer (some ⟨b1, 0, none⟩)), (3, .pointer (some ⟨b3, 0, none⟩)), (4, .pointer (some ⟨b5, 0, none⟩)), (36, .int .i64 f), (41, .int .u64 (IntKind.u64.wrap ((p.getD f.toNat 0) - a)))]) (L2 := (ol [7, 8])) 1 [2, 3, 4, 36, 41] (by kernel_rfl) ?_
          refine wc_ix (b := b1) (off := 0) (o' := f.toNat) (some 42) (some ⟨b1, 0, none⟩) 16 1 f (by kernel_rfl) rfl (by omega) (by omega) (by omega) ?_
          refine wc_st (b := b1) (off := f.toNat) (Tb := 24) (vs := ([.int .u64 (IntKind.u64.wrap ((p.getD f.toNat 0) - a))])) (cs' := (iv .u64 (p.set f.toNat (IntKind.u64.wrap ((p.getD f.toNat 0) - a))))) H 2 22 (.int .u64 (IntKind.u64.wrap ((p.getD f.toNat 0) - a))) 1 (by kernel_rfl) rfl rfl (by rfl) (by have h := (iv_length .u64 p).trans hp; omega) (by simp [Value.oneCell']) (by exact iv_set _ _ _ _ (by have h : p.length = _ := hp; omega)) (fun w28 H => ?_)
          dsimp only [List.set] at H
          refine wc_nil rfl ?_
          refine n_np ?_
          refine n_sq ?_
          refine wn_seq (by kernel_rfl) ?_
          refine wn_regD [] (ol [0, 1, 2, 3, 4, 5, 6, 7, 8]) (by kernel_rfl) H (fun w29 H => ?_)
          refine wc_run (T' := [(2, .pointer (some ⟨b1, 0, none⟩)), (3, .pointer (some ⟨b3, 0, none⟩)), (4, .pointer (some ⟨b5, 0, none⟩)), (43, .pointer (some ⟨b3, 1, none⟩))]) (L2 := (ol [1, 2, 3, 4, 5, 6, 7, 8])) 1 [2, 3, 4, 43] (by kernel_rfl) ?_
          refine wc_ld (b := b3) (off := 1) (some 44) 3 (.int .i64 t) (by kernel_rfl) (Ld.ent1 H 1 rfl (by kernel_rfl) (by rfl)) ?_
          refine wc_ix (b := b1) (off := 0) (o' := t.toNat) (some 45) (some ⟨b1, 0, none⟩) 16 1 t (by kernel_rfl) rfl (by omega) (by omega) (by omega) ?_
          refine wc_ld (b := b1) (off := t.toNat) (some 46) 22 (.int .u64 ((p.set f.toNat (IntKind.u64.wrap ((p.getD f.toNat 0) - a))).getD t.toNat 0)) (by kernel_rfl) (Ld.ent1 H 2 rfl (by kernel_rfl) (iv_get (by have h : (p.set f.toNat (IntKind.u64.wrap ((p.getD f.toNat 0) - a))).length = _ := ((List.length_set ..).trans hp); omega))) ?_
          refine wc_run (T' := [(2, .pointer (some ⟨b1, 0, none⟩)), (4, .pointer (some ⟨b5, 0, none⟩)), (44, .int .i64 t), (46, .int .u64 ((p.set f.toNat (IntKind.u64.wrap ((p.getD f.toNat 0) - a))).getD t.toNat 0)), (47, .pointer (some ⟨b3, 2, none⟩))]) (L2 := (ol [5, 6, 7, 8])) 1 [2, 4, 44, 46, 47] (by kernel_rfl) ?_
          refine wc_ld (b := b3) (off := 2) (some 48) 22 (.int .u64 a) (by kernel_rfl) (Ld.ent1 H 1 rfl (by kernel_rfl) (by rfl)) ?_
          refine wc_run (T' := [(2, .pointer (some ⟨b1, 0, none⟩)), (4, .pointer (some ⟨b5, 0, none⟩)), (44, .int .i64 t), (49, .int .u64 (IntKind.u64.wrap (((p.set f.toNat (IntKind.u64.wrap ((p.getD f.toNat 0) - a))).getD t.toNat 0) + a)))]) (L2 := (ol [7, 8])) 1 [2, 4, 44, 49] (by kernel_rfl) ?_
          refine wc_ix (b := b1) (off := 0) (o' := t.toNat) (some 50) (some ⟨b1, 0, none⟩) 16 1 t (by kernel_rfl) rfl (by omega) (by omega) (by omega) ?_
          refine wc_st (b := b1) (off := t.toNat) (Tb := 24) (vs := ([.int .u64 (IntKind.u64.wrap (((p.set f.toNat (IntKind.u64.wrap ((p.getD f.toNat 0) - a))).getD t.toNat 0) + a))])) (cs' := (iv .u64 ((p.set f.toNat (IntKind.u64.wrap ((p.getD f.toNat 0) - a))).set t.toNat (IntKind.u64.wrap (((p.set f.toNat (IntKind.u64.wrap ((p.getD f.toNat 0) - a))).getD t.toNat 0) + a))))) H 2 22 (.int .u64 (IntKind.u64.wrap (((p.set f.toNat (IntKind.u64.wrap ((p.getD f.toNat 0) - a))).getD t.toNat 0) + a))) 1 (by kernel_rfl) rfl rfl (by rfl) (by have h := (iv_length .u64 (p.set f.toNat (IntKind.u64.wrap ((p.getD f.toNat 0) - a)))).trans ((List.length_set ..).trans hp); omega) (by simp [Value.oneCell']) (by exact iv_set _ _ _ _ (by have h : (p.set f.toNat (IntKind.u64.wrap ((p.getD f.toNat 0) - a))).length = _ := ((List.length_set ..).trans hp); omega)) (fun w30 H => ?_)
          dsimp only [List.set] at H
          refine wc_nil rfl ?_
          refine n_np ?_
          refine n_sq ?_
          refine wn_seq (by kernel_rfl) ?_
          refine wn_reg 3 (by kernel_rfl) ?_
          refine wc_ld (b := b1) (off := 0) (some 51) 24 (.agg (iv .u64 ((p.set f.toNat (IntKind.u64.wrap ((p.getD f.toNat 0) - a))).set t.toNat (IntKind.u64.wrap (((p.set f.toNat (IntKind.u64.wrap ((p.getD f.toNat 0) - a))).getD t.toNat 0) + a)))).toArray) (by kernel_rfl) (Ld.entW H 2 (n := 16) rfl (by kernel_rfl) (by first | (simp only [iv_length, List.length_set, List.length_replicate, *]; done) | (simp [iv_length, *]; done) | (simp [Value.cells, iv_length, *]; done) | omega | (simp [Value.cells, iv_length] <;> omega))) ?_
          refine wc_st (b := b5) (off := 0) (Tb := 24) (vs := (iv .u64 ((p.set f.toNat (IntKind.u64.wrap ((p.getD f.toNat 0) - a))).set t.toNat (IntKind.u64.wrap (((p.set f.toNat (IntKind.u64.wrap ((p.getD f.toNat 0) - a))).getD t.toNat 0) + a))))) (cs' := (iv .u64 ((p.set f.toNat (IntKind.u64.wrap ((p.getD f.toNat 0) - a))).set t.toNat (IntKind.u64.wrap (((p.set f.toNat (IntKind.u64.wrap ((p.getD f.toNat 0) - a))).getD t.toNat 0) + a))))) H 0 24 (.agg (iv .u64 ((p.set f.toNat (IntKind.u64.wrap ((p.getD f.toNat 0) - a))).set t.toNat (IntKind.u64.wrap (((p.set f.toNat (IntKind.u64.wrap ((p.getD f.toNat 0) - a))).getD t.toNat 0) + a)))).toArray) 16 (by kernel_rfl) rfl rfl (by first | (simp only [iv_length, List.length_set, List.length_replicate, *]; done) | (simp [iv_length, *]; done) | (simp [Value.cells, iv_length, *]; done) | omega | (simp [Value.cells, iv_length] <;> omega)) (by have h := (iv_length .u64 (List.replicate 16 0)).trans List.length_replicate; omega) (by exact iv_flat _ _) (by first | rfl | exact blit_all _ _ (by first | (simp only [iv_length, List.length_set, List.length_replicate, *]; done) | (simp [iv_length, *]; done) | (simp [Value.cells, iv_length, *]; done) | omega | (simp [Value.cells, iv_length] <;> omega)) | (simp [blit, List.drop_append, List.take_append, iv_length, *]; done)) (fun w31 H => ?_)
          dsimp only [List.set] at H
          refine wc_run (T' := [(4, .pointer (some ⟨b5, 0, none⟩)), (5, .int .i64 0)]) (L2 := (rng 3 0)) 1 [4, 5] (by kernel_rfl) ?_
          refine wc_nil rfl ?_
          refine n_sq ?_
          refine wn_ret (by kernel_rfl) ?_
          refine ret2 _ (Or.inr rfl) Try.results19 ⟨_, _, rfl, Ld.entW H 0 (n := 16) rfl (by kernel_rfl) (by first | (simp only [iv_length, List.length_set, List.length_replicate, *]; done) | (simp [iv_length, *]; done) | (simp [Value.cells, iv_length, *]; done) | omega | (simp [Value.cells, iv_length] <;> omega))⟩ rfl ?_
          have he32 : payP p f t a = (p.set f.toNat (IntKind.u64.wrap ((p.getD f.toNat 0) - a))).set t.toNat (IntKind.u64.wrap (((p.set f.toNat (IntKind.u64.wrap ((p.getD f.toNat 0) - a))).getD t.toNat 0) + a)) := by
            unfold payP; rw [if_pos (by unfold payE; split <;> simp_all <;> omega)]; rfl
          have he33 : payE p f t a = (0 : Int) := by
            unfold payE; split <;> simp_all <;> omega
          exact ⟨by rw [he32, he33], H.nil, by exact payP_length hp _ _ _, by exact payP_B64 hb _ _ _⟩

noncomputable def cd_ledger_All : Code := (Try.f15.body).getD .skip
theorem ledger_All (w : World) (p : List Int) (l : List Mv) (A : Option Addr) (c : Nat) (hp : p.length = 16) (hb : B64 p) (hl : Rd w A (mvC l)) (hn : l.length ≤ 140737488351232) :
    Calls Try.prog 15 #[.agg (iv .u64 p).toArray, .slice A l.length c] w (fun e w' => e = .returned (.tuple #[.agg (iv .u64 ((allF p l).1)).toArray, .int .i64 ((allF p l).2.1), .int .i64 ((allF p l).2.2)]) ∧ Hp [] w w' [] ∧ (allF p l).1.length = 16 ∧ B64 (allF p l).1) := by
  refine enter (args := [_, _]) (c := cd_ledger_All) (N := 35) Try.func15 (by kernel_rfl) (by kernel_rfl) (by simp) ?_
  have H := Hp.start w
  refine wn_seq (by kernel_rfl) ?_
  refine wn_reg 4 (by kernel_rfl) ?_
  refine wc_new H (some 2) (row (iv .u64 p) 24) (fun r => .pointer (some ⟨r, 0, none⟩)) (by kernel_rfl) (fun b1 w2 H => ?_)
  refine wc_new H (some 4) (row (iv .u64 (List.replicate 16 0)) 24) (fun r => .pointer (some ⟨r, 0, none⟩)) (by kernel_rfl) (fun b3 w4 H => ?_)
  refine wc_run (T' := [(1, .slice A l.length c), (2, .pointer (some ⟨b1, 0, none⟩)), (4, .pointer (some ⟨b3, 0, none⟩))]) (L2 := (rng 4 0)) 2 [1, 2, 4] (by kernel_rfl) ?_
  refine wc_nil rfl ?_
  refine n_sq ?_
  refine wn_seq (by kernel_rfl) ?_
  refine wn_seq (by kernel_rfl) ?_
  refine wn_reg 3 (by kernel_rfl) ?_
  refine wc_ld (b := b1) (off := 0) (some 9) 24 (.agg (iv .u64 p).toArray) (by kernel_rfl) (Ld.entW H 1 (n := 16) rfl (by kernel_rfl) (by exact (iv_length .u64 p).trans hp)) ?_
  refine wc_call (some 10) (by kernel_rfl) (ledger_May w4 p (by first | assumption | omega | (simp_all; done)) (by first | assumption | omega | (simp_all; done))) ?_
  rintro _ w5 ⟨rfl, H1⟩
  refine ⟨_, rfl, fun _ => H1.keep, ?_⟩
  replace H := H.call H1
  simp only [List.nil_append] at H
  refine wc_run (T' := [(1, .slice A l.length c), (2, .pointer (some ⟨b1, 0, none⟩)), (4, .pointer (some ⟨b3, 0, none⟩)), (11, .bool (!(mayP p)))]) (L2 := (rng 3 0)) 1 [1, 2, 4, 11] (by kernel_rfl) ?_
  refine wc_nil rfl ?_
  refine n_sq ?_
  refine wn_cond (.tmp 11) (!(mayP p)) (by kernel_rfl) rfl (fun hc6 => ?_) (fun hc6 => ?_)
  · have hc6 := notT hc6
    refine wn_seq (by kernel_rfl) ?_
    refine wn_reg 4 (by kernel_rfl) ?_
    refine wc_run (T' := [(4, .pointer (some ⟨b3, 0, none⟩)), (12, .agg (iv .u64 (List.replicate 16 0)).toArray)]) (L2 := (rng 1 3)) 1 [4, 12] (by kernel_rfl) ?_
    refine wc_st (b := b3) (off := 0) (Tb := 24) (vs := (iv .u64 (List.replicate 16 0))) (cs' := (iv .u64 (List.replicate 16 0))) H 0 24 (.agg (iv .u64 (List.replicate 16 0)).toArray) 16 (by kernel_rfl) rfl rfl (by exact (iv_length .u64 (List.replicate 16 0)).trans List.length_replicate) (by have h := (iv_length .u64 (List.replicate 16 0)).trans List.length_replicate; omega) (by exact iv_flat _ _) (by exact blit_all _ _ (((iv_length .u64 (List.replicate 16 0)).trans List.length_replicate).trans ((iv_length .u64 (List.replicate 16 0)).trans List.length_replicate).symm)) (fun w7 H => ?_)
    dsimp only [List.set] at H
    refine wc_run (T' := [(4, .pointer (some ⟨b3, 0, none⟩)), (5, .int .i64 0), (6, .int .i64 2)]) (L2 := (rng 4 0)) 2 [4, 5, 6] (by kernel_rfl) ?_
    refine wc_nil rfl ?_
    refine n_sq ?_
    refine wn_ret (by kernel_rfl) ?_
    refine r_sq ?_
    refine ret3 _ (Or.inr rfl) Try.results15 ⟨_, _, rfl, Ld.entW H 0 (n := 16) rfl (by kernel_rfl) (by exact (iv_length .u64 (List.replicate 16 0)).trans List.length_replicate)⟩ rfl rfl ?_
    have he8 : (allF p l).1 = (List.replicate 16 0) := by
      simp_all [allF, zeros]
    have he9 : (allF p l).2.1 = (0 : Int) := by
      simp_all [allF, zeros]
    have he10 : (allF p l).2.2 = (2 : Int) := by
      simp_all [allF, zeros]
    exact ⟨by rw [he8, he9, he10], H.nil, by exact (allF_ok hp hb).1, by exact (allF_ok hp hb).2⟩
  · have hc6 := notF hc6
    refine wn_skip (by kernel_rfl) ?_
    refine n_sq ?_
    refine wn_seq (by kernel_rfl) ?_
    refine wn_seq (by kernel_rfl) ?_
    refine wn_reg 3 (by kernel_rfl) ?_
    refine wc_run (T' := [(1, .slice A l.length c), (2, .pointer (some ⟨b1, 0, none⟩)), (4, .pointer (some ⟨b3, 0, none⟩)), (13, .slice A l.length c), (14, .int .i64 (↑l.length : Int)), (15, .int .i64 0)]) (L2 := (rng 3 0)) 3 [1, 2, 4, 13, 14, 15] (by kernel_rfl) ?_
    refine wc_nil rfl ?_
    refine n_sq ?_
    refine wn_block 0 (by kernel_rfl) ?_
    refine wn_loop (fun ((i, q) : Int × List Int) => [(1, .slice A l.length c), (2, .pointer (some ⟨b1, 0, none⟩)), (4, .pointer (some ⟨b3, 0, none⟩)), (13, .slice A l.length c), (14, .int .i64 (↑l.length : Int)), (15, .int .i64 i)]) (fun ((i, q) : Int × List Int) w' => Hp [] w w' [(b3, row (iv .u64 (List.replicate 16 0)) 24), (b1, row (iv .u64 q) 24)] ∧ 0 ≤ i ∧ i ≤ l.length ∧ q.length = 16 ∧ B64 q ∧ allP q (l.drop i.toNat) i = allF p l) (fun ((i, q) : Int × List Int) => (l.length - i).toNat) ((0 : Int), p) [1, 2, 4, 13, 14, 15] (by kernel_rfl) rfl ⟨H, by simp_all [allF]⟩ ?_
    rintro ⟨i, q⟩ w11 ⟨H, hi⟩
    try dsimp only at H hi
    refine wn_pick (T' := [(1, .slice A l.length c), (2, .pointer (some ⟨b1, 0, none⟩)), (4, .pointer (some ⟨b3, 0, none⟩)), (13, .slice A l.length c), (14, .int .i64 (↑l.length : Int)), (15, .int .i64 i)]) [1, 2, 4, 13, 14, 15] (by kernel_rfl) ?_
    refine wn_seq (by kernel_rfl) ?_
    refine wn_reg 1 (by kernel_rfl) ?_
    refine wc_run (T' := [(1, .slice A l.length c), (2, .pointer (some ⟨b1, 0, none⟩)), (4, .pointer (some ⟨b3, 0, none⟩)), (13, .slice A l.length c), (14, .int .i64 (↑l.length : Int)), (15, .int .i64 i), (16, .bool (decide (i < (↑l.length : Int))))]) (L2 := (rng 1 0)) 1 [1, 2, 4, 13, 14, 15, 16] (by kernel_rfl) ?_
    refine wc_nil rfl ?_
    refine n_sq ?_
    refine wn_seq (by kernel_rfl) ?_
    refine wn_cond (.tmp 16) (decide (i < (↑l.length : Int))) (by kernel_rfl) rfl (fun hc12 => ?_) (fun hc12 => ?_)
    · have hc12 := of_decide_eq_true hc12
      refine wn_skip (by kernel_rfl) ?_
      refine n_sq ?_
      refine wn_seq (by kernel_rfl) ?_
      refine wn_block 1 (by kernel_rfl) ?_
      refine wn_seq (by kernel_rfl) ?_
      refine wn_reg 6 (by kernel_rfl) ?_
      refine wc_run (T' := [(1, .slice A l.length c), (2, .pointer (some ⟨b1, 0, none⟩)), (4, .pointer (some ⟨b3, 0, none⟩)), (13, .slice A l.length c), (14, .int .i64 (↑l.length : Int)), (15, .int .i64 i), (17, .int .i64 i)]) (L2 := (rng 1 5)) 1 [1, 2, 4, 13, 14, 15, 17] (by kernel_rfl) ?_
      obtain ⟨b13, o14, hA15, hl16, hm17⟩ := Rd.at (hl.keep H.keep) (by intro hne; have := congrArg List.length hne; simp [mvC_length] at this; omega)
      refine wc_ix (P := Try.prog) (b := b13) (off := o14) (o' := o14 + i.toNat * 3) (some 18) A l.length 3 i (by kernel_rfl) hA15 (by omega) (by omega) (by omega) ?_
      refine wc_ld (b := b13) (off := o14 + i.toNat * 3) (some 19) 39 (.agg #[.int .i64 ((l.getD i.toNat default).1), .int .i64 ((l.getD i.toNat default).2.1), .int .u64 ((l.getD i.toNat default).2.2)]) (by kernel_rfl) (hm17 39 3 (i.toNat * 3) _ (by kernel_rfl) (by kernel_rfl) (by simp [mvC_length]; omega) (by exact mvC_at (by omega))) ?_
      refine wc_new H (some 8) (row ([.int .i64 0, .int .i64 0, .int .u64 0]) 39) (fun r => .pointer (some ⟨r, 0, none⟩)) (by kernel_rfl) (fun b18 w19 H => ?_)
      refine wc_run (T' := [(1, .slice A l.length c), (2, .pointer (some ⟨b1, 0, none⟩)), (4, .pointer (some ⟨b3, 0, none⟩)), (7, .int .i64 i), (8, .pointer (some ⟨b18, 0, none⟩)), (13, .slice A l.length c), (14, .int .i64 (↑l.length : Int)), (15, .int .i64 i), (19, .agg #[.int .i64 ((l.getD i.toNat default).1), .int .i64 ((l.getD i.toNat default).2.1), .int .u64 ((l.getD i.toNat default).2.2)])]) (L2 := (rng 5 1)) 1 [1, 2, 4, 7, 8, 13, 14, 15, 19] (by kernel_rfl) ?_
      refine wc_st (b := b18) (off := 0) (Tb := 39) (vs := ([.int .i64 ((l.getD i.toNat default).1), .int .i64 ((l.getD i.toNat default).2.1), .int .u64 ((l.getD i.toNat default).2.2)])) (cs' := ([.int .i64 ((l.getD i.toNat default).1), .int .i64 ((l.getD i.toNat default).2.1), .int .u64 ((l.getD i.toNat default).2.2)])) H 0 39 (.agg #[.int .i64 ((l.getD i.toNat default).1), .int .i64 ((l.getD i.toNat default).2.1), .int .u64 ((l.getD i.toNat default).2.2)]) 3 (by kernel_rfl) rfl rfl (by rfl) (by simp; try omega) (by simp [Value.oneCell']) (by rfl) (fun w20 H => ?_)
      dsimp only [List.set] at H
      refine wc_nil rfl ?_
      refine n_sq ?_
      refine wn_seq (by kernel_rfl) ?_
      refine wn_reg 8 (by kernel_rfl) ?_
      refine wc_ld (b := b1) (off := 0) (some 21) 24 (.agg (iv .u64 q).toArray) (by kernel_rfl) (Ld.entW H 2 (n := 16) rfl (by kernel_rfl) (by first | (simp only [iv_length, List.length_set, List.length_replicate, *]; done) | (simp [iv_length, *]; done) | (simp [Value.cells, iv_length, *]; done) | omega | (simp [Value.cells, iv_length] <;> omega))) ?_
      refine wc_ld (b := b18) (off := 0) (some 22) 39 (.agg #[.int .i64 ((l.getD i.toNat default).1), .int .i64 ((l.getD i.toNat default).2.1), .int .u64 ((l.getD i.toNat default).2.2)]) (by kernel_rfl) (Ld.entW H 0 (n := 3) rfl (by kernel_rfl) (by rfl)) ?_
      refine wc_call (some 23) (by kernel_rfl) (ledger_Pay w20 q ((l.getD i.toNat default).1) ((l.getD i.toNat default).2.1) ((l.getD i.toNat default).2.2) (by first | assumption | omega | (simp_all; done)) (by first | assumption | omega | (simp_all; done))) ?_
      rintro _ w21 ⟨rfl, H1, hf22, hf23⟩
      refine ⟨_, rfl, fun _ => H1.keep, ?_⟩
      replace H := H.call H1
      simp only [List.nil_append] at H
      refine wc_run (T' := [(1, .slice A l.length c), (2, .pointer (some ⟨b1, 0, none⟩)), (4, .pointer (some ⟨b3, 0, none⟩)), (7, .int .i64 i), (13, .slice A l.length c), (14, .int .i64 (↑l.length : Int)), (15, .int .i64 i), (24, .agg (iv .u64 (payP q ((l.getD i.toNat default).1) ((l.getD i.toNat default).2.1) ((l.getD i.toNat default).2.2))).toArray), (25, .int .i64 (payE q ((l.getD i.toNat default).1) ((l.getD i.toNat default).2.1) ((l.getD i.toNat default).2.2)))]) (L2 := (rng 6 2)) 3 [1, 2, 4, 7, 13, 14, 15, 24, 25] (by kernel_rfl) ?_
      refine wc_st (b := b1) (off := 0) (Tb := 24) (vs := (iv .u64 (payP q ((l.getD i.toNat default).1) ((l.getD i.toNat default).2.1) ((l.getD i.toNat default).2.2)))) (cs' := (iv .u64 (payP q ((l.getD i.toNat default).1) ((l.getD i.toNat default).2.1) ((l.getD i.toNat default).2.2)))) H 2 24 (.agg (iv .u64 (payP q ((l.getD i.toNat default).1) ((l.getD i.toNat default).2.1) ((l.getD i.toNat default).2.2))).toArray) 16 (by kernel_rfl) rfl rfl (by exact (iv_length .u64 (payP q ((l.getD i.toNat default).1) ((l.getD i.toNat default).2.1) ((l.getD i.toNat default).2.2))).trans hf22) (by first | (simp only [iv_length, List.length_set, List.length_replicate, *]; done) | (simp [iv_length, *]; done) | (simp [Value.cells, iv_length, *]; done) | omega | (simp [Value.cells, iv_length] <;> omega)) (by exact iv_flat _ _) (by first | rfl | exact blit_all _ _ (by first | (simp only [iv_length, List.length_set, List.length_replicate, *]; done) | (simp [iv_length, *]; done) | (simp [Value.cells, iv_length, *]; done) | omega | (simp [Value.cells, iv_length] <;> omega)) | (simp [blit, List.drop_append, List.take_append, iv_length, *]; done)) (fun w24 H => ?_)
      dsimp only [List.set] at H
      refine wc_run (T' := [(1, .slice A l.length c), (2, .pointer (some ⟨b1, 0, none⟩)), (4, .pointer (some ⟨b3, 0, none⟩)), (6, .int .i64 (payE q ((l.getD i.toNat default).1) ((l.getD i.toNat default).2.1) ((l.getD i.toNat default).2.2))), (7, .int .i64 i), (13, .slice A l.length c), (14, .int .i64 (↑l.length : Int)), (15, .int .i64 i)]) (L2 := (rng 8 0)) 1 [1, 2, 4, 6, 7, 13, 14, 15] (by kernel_rfl) ?_
      refine wc_nil rfl ?_
      refine n_sq ?_
      refine wn_seq (by kernel_rfl) ?_
      refine wn_reg 2 (by kernel_rfl) ?_
      refine wc_run (T' := [(1, .slice A l.length c), (2, .pointer (some ⟨b1, 0, none⟩)), (4, .pointer (some ⟨b3, 0, none⟩)), (6, .int .i64 (payE q ((l.getD i.toNat default).1) ((l.getD i.toNat default).2.1) ((l.getD i.toNat default).2.2))), (7, .int .i64 i), (13, .slice A l.length c), (14, .int .i64 (↑l.length : Int)), (15, .int .i64 i), (27, .bool ((payE q ((l.getD i.toNat default).1) ((l.getD i.toNat default).2.1) ((l.getD i.toNat default).2.2)) != (0 : Int)))]) (L2 := (rng 2 0)) 2 [1, 2, 4, 6, 7, 13, 14, 15, 27] (by kernel_rfl) ?_
      refine wc_nil rfl ?_
      refine n_sq ?_
      refine wn_cond (.tmp 27) ((payE q ((l.getD i.toNat default).1) ((l.getD i.toNat default).2.1) ((l.getD i.toNat default).2.2)) != (0 : Int)) (by kernel_rfl) rfl (fun hc25 => ?_) (fun hc25 => ?_)
      · have hc25 := bneT hc25
        refine wn_seq (by kernel_rfl) ?_
        refine wn_reg 6 (by kernel_rfl) ?_
        refine wc_run (T' := [(4, .pointer (some ⟨b3, 0, none⟩)), (28, .agg (iv .u64 (List.replicate 16 0)).toArray), (29, .int .i64 i), (30, .int .i64 (payE q ((l.getD i.toNat default).1) ((l.getD i.toNat default).2.1) ((l.getD i.toNat default).2.2)))]) (L2 := (rng 3 3)) 3 [4, 28, 29, 30] (by kernel_rfl) ?_
        refine wc_st (b := b3) (off := 0) (Tb := 24) (vs := (iv .u64 (List.replicate 16 0))) (cs' := (iv .u64 (List.replicate 16 0))) H 1 24 (.agg (iv .u64 (List.replicate 16 0)).toArray) 16 (by kernel_rfl) rfl rfl (by exact (iv_length .u64 (List.replicate 16 0)).trans List.length_replicate) (by have h := (iv_length .u64 (List.replicate 16 0)).trans List.length_replicate; omega) (by exact iv_flat _ _) (by exact blit_all _ _ (((iv_length .u64 (List.replicate 16 0)).trans List.length_replicate).trans ((iv_length .u64 (List.replicate 16 0)).trans List.length_replicate).symm)) (fun w26 H => ?_)
        dsimp only [List.set] at H
        refine wc_run (T' := [(4, .pointer (some ⟨b3, 0, none⟩)), (5, .int .i64 i), (6, .int .i64 (payE q ((l.getD i.toNat default).1) ((l.getD i.toNat default).2.1) ((l.getD i.toNat default).2.2)))]) (L2 := (rng 6 0)) 2 [4, 5, 6] (by kernel_rfl) ?_
        refine wc_nil rfl ?_
        refine n_sq ?_
        refine wn_ret (by kernel_rfl) ?_
        refine r_blk ?_
        refine r_sq ?_
        refine r_then ?_
        refine r_blk ?_
        refine r_sq ?_
        refine ret3 _ (Or.inr rfl) Try.results15 ⟨_, _, rfl, Ld.entW H 1 (n := 16) rfl (by kernel_rfl) (by exact (iv_length .u64 (List.replicate 16 0)).trans List.length_replicate)⟩ rfl rfl ?_
        have he27 : (allF p l).1 = (List.replicate 16 0) := by
          obtain ⟨h1, h2, h3, h4, h5⟩ := hi
          have hs := allP_step (p := q) (l := l) (i := i.toNat) (k := i) (by omega)
          rw [if_neg (by simp_all)] at hs
          rw [← h5, hs]; try rfl
        have he28 : (allF p l).2.1 = i := by
          obtain ⟨h1, h2, h3, h4, h5⟩ := hi
          have hs := allP_step (p := q) (l := l) (i := i.toNat) (k := i) (by omega)
          rw [if_neg (by simp_all)] at hs
          rw [← h5, hs]; try rfl
        have he29 : (allF p l).2.2 = payE q ((l.getD i.toNat default).1) ((l.getD i.toNat default).2.1) ((l.getD i.toNat default).2.2) := by
          obtain ⟨h1, h2, h3, h4, h5⟩ := hi
          have hs := allP_step (p := q) (l := l) (i := i.toNat) (k := i) (by omega)
          rw [if_neg (by simp_all)] at hs
          rw [← h5, hs]; try rfl
        exact ⟨by rw [he27, he28, he29], H.nil, by exact (allF_ok hp hb).1, by exact (allF_ok hp hb).2⟩
      · have hc25 := bneF hc25
        refine wn_skip (by kernel_rfl) ?_
        refine n_blk ?_
        refine n_sq ?_
        refine wn_reg 2 (by kernel_rfl) ?_
        refine wc_run (T' := [(1, .slice A l.length c), (2, .pointer (some ⟨b1, 0, none⟩)), (4, .pointer (some ⟨b3, 0, none⟩)), (13, .slice A l.length c), (14, .int .i64 (↑l.length : Int)), (31, .int .i64 (IntKind.i64.wrap (i + 1)))]) (L2 := (rng 1 1)) 1 [1, 2, 4, 13, 14, 31] (by kernel_rfl) ?_
        rw [wi64 (x := i + 1) (by omega) (by omega)]
        refine wc_run (T' := [(1, .slice A l.length c), (2, .pointer (some ⟨b1, 0, none⟩)), (4, .pointer (some ⟨b3, 0, none⟩)), (13, .slice A l.length c), (14, .int .i64 (↑l.length : Int)), (15, .int .i64 (i + 1))]) (L2 := (rng 2 0)) 1 [1, 2, 4, 13, 14, 15] (by kernel_rfl) ?_
        refine wc_nil rfl ?_
        refine round_end (i + 1, payP q ((l.getD i.toNat default).1) ((l.getD i.toNat default).2.1) ((l.getD i.toNat default).2.2)) [1, 2, 4, 13, 14, 15] (by kernel_rfl) ⟨H.sub (by repeat first | exact List.Sublist.slnil | apply List.Sublist.cons_cons | apply List.Sublist.cons), ?_⟩ ?_
        · obtain ⟨h1, h2, h3, h4, h5⟩ := hi
          have hs := allP_step (p := q) (l := l) (i := i.toNat) (k := i) (by omega)
          have he : (i + 1).toNat = i.toNat + 1 := by omega
          rw [if_pos (by simp_all)] at hs
          rw [he]
          exact ⟨by omega, by omega, payP_length h3 _ _ _, payP_B64 h4 _ _ _, by rw [← hs]; exact h5⟩
        · first | omega | (dsimp only; omega)
    · have hc12 := of_decide_eq_false hc12
      refine wn_exit 0 (by kernel_rfl) ?_
      refine e_sq ?_
      refine e_then ?_
      refine e_blk ?_
      refine n_sq ?_
      refine wn_seq (by kernel_rfl) ?_
      refine wn_reg 6 (by kernel_rfl) ?_
      refine wc_ld (b := b1) (off := 0) (some 32) 24 (.agg (iv .u64 q).toArray) (by kernel_rfl) (Ld.entW H 1 (n := 16) rfl (by kernel_rfl) (by first | (simp only [iv_length, List.length_set, List.length_replicate, *]; done) | (simp [iv_length, *]; done) | (simp [Value.cells, iv_length, *]; done) | omega | (simp [Value.cells, iv_length] <;> omega))) ?_
      refine wc_run (T' := [(4, .pointer (some ⟨b3, 0, none⟩)), (32, .agg (iv .u64 q).toArray), (34, .int .i64 (↑l.length : Int))]) (L2 := (rng 3 3)) 2 [4, 32, 34] (by kernel_rfl) ?_
      refine wc_st (b := b3) (off := 0) (Tb := 24) (vs := (iv .u64 q)) (cs' := (iv .u64 q)) H 0 24 (.agg (iv .u64 q).toArray) 16 (by kernel_rfl) rfl rfl (by first | (simp only [iv_length, List.length_set, List.length_replicate, *]; done) | (simp [iv_length, *]; done) | (simp [Value.cells, iv_length, *]; done) | omega | (simp [Value.cells, iv_length] <;> omega)) (by have h := (iv_length .u64 (List.replicate 16 0)).trans List.length_replicate; omega) (by exact iv_flat _ _) (by first | rfl | exact blit_all _ _ (by first | (simp only [iv_length, List.length_set, List.length_replicate, *]; done) | (simp [iv_length, *]; done) | (simp [Value.cells, iv_length, *]; done) | omega | (simp [Value.cells, iv_length] <;> omega)) | (simp [blit, List.drop_append, List.take_append, iv_length, *]; done)) (fun w30 H => ?_)
      dsimp only [List.set] at H
      refine wc_run (T' := [(4, .pointer (some ⟨b3, 0, none⟩)), (5, .int .i64 (↑l.length : Int)), (6, .int .i64 0)]) (L2 := (rng 6 0)) 2 [4, 5, 6] (by kernel_rfl) ?_
      refine wc_nil rfl ?_
      refine n_sq ?_
      refine wn_ret (by kernel_rfl) ?_
      refine ret3 _ (Or.inr rfl) Try.results15 ⟨_, _, rfl, Ld.entW H 0 (n := 16) rfl (by kernel_rfl) (by first | (simp only [iv_length, List.length_set, List.length_replicate, *]; done) | (simp [iv_length, *]; done) | (simp [Value.cells, iv_length, *]; done) | omega | (simp [Value.cells, iv_length] <;> omega))⟩ rfl rfl ?_
      have he31 : (allF p l).1 = q := by
        obtain ⟨h1, h2, h3, h4, h5⟩ := hi
        have he : i.toNat = l.length := by omega
        rw [he, List.drop_eq_nil_of_le (by omega)] at h5
        rw [← h5]; first | rfl | (simp only [allP]; omega)
      have he32 : (allF p l).2.1 = (↑l.length : Int) := by
        obtain ⟨h1, h2, h3, h4, h5⟩ := hi
        have he : i.toNat = l.length := by omega
        rw [he, List.drop_eq_nil_of_le (by omega)] at h5
        rw [← h5]; first | rfl | (simp only [allP]; omega)
      have he33 : (allF p l).2.2 = (0 : Int) := by
        obtain ⟨h1, h2, h3, h4, h5⟩ := hi
        have he : i.toNat = l.length := by omega
        rw [he, List.drop_eq_nil_of_le (by omega)] at h5
        rw [← h5]; first | rfl | (simp only [allP]; omega)
      exact ⟨by rw [he31, he32, he33], H.nil, by exact (allF_ok hp hb).1, by exact (allF_ok hp hb).2⟩

noncomputable def cd_proctorref19_Pay : Code := (Try.f20.body).getD .skip
theorem proctorref19_Pay (w : World) (p : List Int) (f : Int) (t : Int) (a : Int) (hp : p.length = 16) (hb : B64 p) :
    Calls Try.prog 20 #[.agg (iv .u64 p).toArray, .agg #[.int .i64 f, .int .i64 t, .int .u64 a]] w (fun e w' => e = .returned (.tuple #[.agg (iv .u64 (payP p f t a)).toArray, .int .i64 (payE p f t a)]) ∧ Hp [] w w' [] ∧ (payP p f t a).length = 16 ∧ B64 (payP p f t a)) := by
  refine enter (args := [_, _]) (c := cd_proctorref19_Pay) (N := 55) Try.func20 (by kernel_rfl) (by kernel_rfl) (by simp) ?_
  have H := Hp.start w
  refine wn_seq (by kernel_rfl) ?_
  refine wn_reg 4 (by kernel_rfl) ?_
  refine wc_new H (some 2) (row (iv .u64 p) 24) (fun r => .pointer (some ⟨r, 0, none⟩)) (by kernel_rfl) (fun b1 w2 H => ?_)
  refine wc_new H (some 3) (row ([.int .i64 f, .int .i64 t, .int .u64 a]) 39) (fun r => .pointer (some ⟨r, 0, none⟩)) (by kernel_rfl) (fun b3 w4 H => ?_)
  refine wc_new H (some 4) (row (iv .u64 (List.replicate 16 0)) 24) (fun r => .pointer (some ⟨r, 0, none⟩)) (by kernel_rfl) (fun b5 w6 H => ?_)
  refine wc_run (T' := [(2, .pointer (some ⟨b1, 0, none⟩)), (3, .pointer (some ⟨b3, 0, none⟩)), (4, .pointer (some ⟨b5, 0, none⟩))]) (L2 := (rng 4 0)) 1 [2, 3, 4] (by kernel_rfl) ?_
  refine wc_nil rfl ?_
  refine n_sq ?_
  refine wn_seq (by kernel_rfl) ?_
  refine wn_seq (by kernel_rfl) ?_
  refine wn_reg 23 (by kernel_rfl) ?_
  refine wc_ld (b := b1) (off := 0) (some 6) 24 (.agg (iv .u64 p).toArray) (by kernel_rfl) (Ld.entW H 2 (n := 16) rfl (by kernel_rfl) (by exact (iv_length .u64 p).trans hp)) ?_
  refine wc_call (some 7) (by kernel_rfl) (proctorref19_May w6 p (by first | assumption | omega | (simp_all; done)) (by first | assumption | omega | (simp_all; done))) ?_
  rintro _ w7 ⟨rfl, H1⟩
  refine ⟨_, rfl, fun _ => H1.keep, ?_⟩
  replace H := H.call H1
  simp only [List.nil_append] at H
  refine wc_run (T' := [(2, .pointer (some ⟨b1, 0, none⟩)), (3, .pointer (some ⟨b3, 0, none⟩)), (4, .pointer (some ⟨b5, 0, none⟩)), (9, .bool (!(mayP p)))]) (L2 := (rng 4 19)) 2 [2, 3, 4, 9] (by kernel_rfl) ?_
  rcases Bool.eq_false_or_eq_true (!(mayP p)) with hg8 | hg8
  · rw [hg8]
    have hg8 := notT hg8
    refine wc_run (T' := [(2, .pointer (some ⟨b1, 0, none⟩)), (3, .pointer (some ⟨b3, 0, none⟩)), (4, .pointer (some ⟨b5, 0, none⟩)), (28, .bool true)]) (L2 := (rng 23 0)) 19 [2, 3, 4, 28] (by kernel_rfl) ?_
    refine wc_nil rfl ?_
    refine n_sq ?_
    refine wn_condT (.tmp 28) (by kernel_rfl) rfl ?_
    refine wn_seq (by kernel_rfl) ?_
    refine wn_reg 3 (by kernel_rfl) ?_
    refine wc_run (T' := [(4, .pointer (some ⟨b5, 0, none⟩)), (29, .agg (iv .u64 (List.replicate 16 0)).toArray)]) (L2 := (rng 1 2)) 1 [4, 29] (by kernel_rfl) ?_
    refine wc_st (b := b5) (off := 0) (Tb := 24) (vs := (iv .u64 (List.replicate 16 0))) (cs' := (iv .u64 (List.replicate 16 0))) H 0 24 (.agg (iv .u64 (List.replicate 16 0)).toArray) 16 (by kernel_rfl) rfl rfl (by exact (iv_length .u64 (List.replicate 16 0)).trans List.length_replicate) (by have h := (iv_length .u64 (List.replicate 16 0)).trans List.length_replicate; omega) (by exact iv_flat _ _) (by exact blit_all _ _ (((iv_length .u64 (List.replicate 16 0)).trans List.length_replicate).trans ((iv_length .u64 (List.replicate 16 0)).trans List.length_replicate).symm)) (fun w9 H => ?_)
    dsimp only [List.set] at H
    refine wc_run (T' := [(4, .pointer (some ⟨b5, 0, none⟩)), (5, .int .i64 2)]) (L2 := (rng 3 0)) 1 [4, 5] (by kernel_rfl) ?_
    refine wc_nil rfl ?_
    refine n_sq ?_
    refine wn_ret (by kernel_rfl) ?_
    refine r_sq ?_
    refine ret2 _ (Or.inr rfl) Try.results20 ⟨_, _, rfl, Ld.entW H 0 (n := 16) rfl (by kernel_rfl) (by exact (iv_length .u64 (List.replicate 16 0)).trans List.length_replicate)⟩ rfl ?_
    have he10 : payP p f t a = (List.replicate 16 0) := by
      unfold payP; rw [if_neg (by unfold payE; split <;> simp_all <;> omega)]
    have he11 : payE p f t a = (2 : Int) := by
      unfold payE; split <;> simp_all <;> omega
    exact ⟨by rw [he10, he11], H.nil, by exact payP_length hp _ _ _, by exact payP_B64 hb _ _ _⟩
  · rw [hg8]
    have hg8 := notF hg8
    refine wc_run (T' := [(2, .pointer (some ⟨b1, 0, none⟩)), (3, .pointer (some ⟨b3, 0, none⟩)), (4, .pointer (some ⟨b5, 0, none⟩)), (9, .bool false), (10, .pointer (some ⟨b3, 0, none⟩))]) (L2 := (rng 5 18)) 1 [2, 3, 4, 9, 10] (by kernel_rfl) ?_
    refine wc_ld (b := b3) (off := 0) (some 11) 3 (.int .i64 f) (by kernel_rfl) (Ld.ent1 H 1 rfl (by kernel_rfl) (by rfl)) ?_
    refine wc_run (T' := [(2, .pointer (some ⟨b1, 0, none⟩)), (3, .pointer (some ⟨b3, 0, none⟩)), (4, .pointer (some ⟨b5, 0, none⟩)), (14, .bool (decide (f < (0 : Int))))]) (L2 := (rng 9 14)) 3 [2, 3, 4, 14] (by kernel_rfl) ?_
    by_cases hg12 : f < (0 : Int)
    · rw [decide_eq_true hg12]
      refine wc_run (T' := [(2, .pointer (some ⟨b1, 0, none⟩)), (3, .pointer (some ⟨b3, 0, none⟩)), (4, .pointer (some ⟨b5, 0, none⟩)), (28, .bool true)]) (L2 := (rng 23 0)) 14 [2, 3, 4, 28] (by kernel_rfl) ?_
      refine wc_nil rfl ?_
      refine n_sq ?_
      refine wn_condT (.tmp 28) (by kernel_rfl) rfl ?_
      refine wn_seq (by kernel_rfl) ?_
      refine wn_reg 3 (by kernel_rfl) ?_
      refine wc_run (T' := [(4, .pointer (some ⟨b5, 0, none⟩)), (29, .agg (iv .u64 (List.replicate 16 0)).toArray)]) (L2 := (rng 1 2)) 1 [4, 29] (by kernel_rfl) ?_
      refine wc_st (b := b5) (off := 0) (Tb := 24) (vs := (iv .u64 (List.replicate 16 0))) (cs' := (iv .u64 (List.replicate 16 0))) H 0 24 (.agg (iv .u64 (List.replicate 16 0)).toArray) 16 (by kernel_rfl) rfl rfl (by exact (iv_length .u64 (List.replicate 16 0)).trans List.length_replicate) (by have h := (iv_length .u64 (List.replicate 16 0)).trans List.length_replicate; omega) (by exact iv_flat _ _) (by exact blit_all _ _ (((iv_length .u64 (List.replicate 16 0)).trans List.length_replicate).trans ((iv_length .u64 (List.replicate 16 0)).trans List.length_replicate).symm)) (fun w13 H => ?_)
      dsimp only [List.set] at H
      refine wc_run (T' := [(4, .pointer (some ⟨b5, 0, none⟩)), (5, .int .i64 2)]) (L2 := (rng 3 0)) 1 [4, 5] (by kernel_rfl) ?_
      refine wc_nil rfl ?_
      refine n_sq ?_
      refine wn_ret (by kernel_rfl) ?_
      refine r_sq ?_
      refine ret2 _ (Or.inr rfl) Try.results20 ⟨_, _, rfl, Ld.entW H 0 (n := 16) rfl (by kernel_rfl) (by exact (iv_length .u64 (List.replicate 16 0)).trans List.length_replicate)⟩ rfl ?_
      have he14 : payP p f t a = (List.replicate 16 0) := by
        unfold payP; rw [if_neg (by unfold payE; split <;> simp_all <;> omega)]
      have he15 : payE p f t a = (2 : Int) := by
        unfold payE; split <;> simp_all <;> omega
      exact ⟨by rw [he14, he15], H.nil, by exact payP_length hp _ _ _, by exact payP_B64 hb _ _ _⟩
    · rw [decide_eq_false hg12]
      refine wc_run (T' := [(2, .pointer (some ⟨b1, 0, none⟩)), (3, .pointer (some ⟨b3, 0, none⟩)), (4, .pointer (some ⟨b5, 0, none⟩)), (14, .bool false), (15, .pointer (some ⟨b3, 0, none⟩))]) (L2 := (rng 10 13)) 1 [2, 3, 4, 14, 15] (by kernel_rfl) ?_
      refine wc_ld (b := b3) (off := 0) (some 16) 3 (.int .i64 f) (by kernel_rfl) (Ld.ent1 H 1 rfl (by kernel_rfl) (by rfl)) ?_
      refine wc_run (T' := [(2, .pointer (some ⟨b1, 0, none⟩)), (3, .pointer (some ⟨b3, 0, none⟩)), (4, .pointer (some ⟨b5, 0, none⟩)), (19, .bool (decide (f > (15 : Int))))]) (L2 := (rng 14 9)) 3 [2, 3, 4, 19] (by kernel_rfl) ?_
      by_cases hg16 : f > (15 : Int)
      · rw [decide_eq_true hg16]
        refine wc_run (T' := [(2, .pointer (some ⟨b1, 0, none⟩)), (3, .pointer (some ⟨b3, 0, none⟩)), (4, .pointer (some ⟨b5, 0, none⟩)), (28, .bool true)]) (L2 := (rng 23 0)) 9 [2, 3, 4, 28] (by kernel_rfl) ?_
        refine wc_nil rfl ?_
        refine n_sq ?_
        refine wn_condT (.tmp 28) (by kernel_rfl) rfl ?_
        refine wn_seq (by kernel_rfl) ?_
        refine wn_reg 3 (by kernel_rfl) ?_
        refine wc_run (T' := [(4, .pointer (some ⟨b5, 0, none⟩)), (29, .agg (iv .u64 (List.replicate 16 0)).toArray)]) (L2 := (rng 1 2)) 1 [4, 29] (by kernel_rfl) ?_
        refine wc_st (b := b5) (off := 0) (Tb := 24) (vs := (iv .u64 (List.replicate 16 0))) (cs' := (iv .u64 (List.replicate 16 0))) H 0 24 (.agg (iv .u64 (List.replicate 16 0)).toArray) 16 (by kernel_rfl) rfl rfl (by exact (iv_length .u64 (List.replicate 16 0)).trans List.length_replicate) (by have h := (iv_length .u64 (List.replicate 16 0)).trans List.length_replicate; omega) (by exact iv_flat _ _) (by exact blit_all _ _ (((iv_length .u64 (List.replicate 16 0)).trans List.length_replicate).trans ((iv_length .u64 (List.replicate 16 0)).trans List.length_replicate).symm)) (fun w17 H => ?_)
        dsimp only [List.set] at H
        refine wc_run (T' := [(4, .pointer (some ⟨b5, 0, none⟩)), (5, .int .i64 2)]) (L2 := (rng 3 0)) 1 [4, 5] (by kernel_rfl) ?_
        refine wc_nil rfl ?_
        refine n_sq ?_
        refine wn_ret (by kernel_rfl) ?_
        refine r_sq ?_
        refine ret2 _ (Or.inr rfl) Try.results20 ⟨_, _, rfl, Ld.entW H 0 (n := 16) rfl (by kernel_rfl) (by exact (iv_length .u64 (List.replicate 16 0)).trans List.length_replicate)⟩ rfl ?_
        have he18 : payP p f t a = (List.replicate 16 0) := by
          unfold payP; rw [if_neg (by unfold payE; split <;> simp_all <;> omega)]
        have he19 : payE p f t a = (2 : Int) := by
          unfold payE; split <;> simp_all <;> omega
        exact ⟨by rw [he18, he19], H.nil, by exact payP_length hp _ _ _, by exact payP_B64 hb _ _ _⟩
      · rw [decide_eq_false hg16]
        refine wc_run (T' := [(2, .pointer (some ⟨b1, 0, none⟩)), (3, .pointer (some ⟨b3, 0, none⟩)), (4, .pointer (some ⟨b5, 0, none⟩)), (19, .bool false), (20, .pointer (some ⟨b3, 1, none⟩))]) (L2 := (rng 15 8)) 1 [2, 3, 4, 19, 20] (by kernel_rfl) ?_
        refine wc_ld (b := b3) (off := 1) (some 21) 3 (.int .i64 t) (by kernel_rfl) (Ld.ent1 H 1 rfl (by kernel_rfl) (by rfl)) ?_
        refine wc_run (T' := [(2, .pointer (some ⟨b1, 0, none⟩)), (3, .pointer (some ⟨b3, 0, none⟩)), (4, .pointer (some ⟨b5, 0, none⟩)), (24, .bool (decide (t < (0 : Int))))]) (L2 := (rng 19 4)) 3 [2, 3, 4, 24] (by kernel_rfl) ?_
        by_cases hg20 : t < (0 : Int)
        · rw [decide_eq_true hg20]
          refine wc_run (T' := [(2, .pointer (some ⟨b1, 0, none⟩)), (3, .pointer (some ⟨b3, 0, none⟩)), (4, .pointer (some ⟨b5, 0, none⟩)), (28, .bool true)]) (L2 := (rng 23 0)) 4 [2, 3, 4, 28] (by kernel_rfl) ?_
          refine wc_nil rfl ?_
          refine n_sq ?_
          refine wn_condT (.tmp 28) (by kernel_rfl) rfl ?_
          refine wn_seq (by kernel_rfl) ?_
          refine wn_reg 3 (by kernel_rfl) ?_
          refine wc_run (T' := [(4, .pointer (some ⟨b5, 0, none⟩)), (29, .agg (iv .u64 (List.replicate 16 0)).toArray)]) (L2 := (rng 1 2)) 1 [4, 29] (by kernel_rfl) ?_
          refine wc_st (b := b5) (off := 0) (Tb := 24) (vs := (iv .u64 (List.replicate 16 0))) (cs' := (iv .u64 (List.replicate 16 0))) H 0 24 (.agg (iv .u64 (List.replicate 16 0)).toArray) 16 (by kernel_rfl) rfl rfl (by exact (iv_length .u64 (List.replicate 16 0)).trans List.length_replicate) (by have h := (iv_length .u64 (List.replicate 16 0)).trans List.length_replicate; omega) (by exact iv_flat _ _) (by exact blit_all _ _ (((iv_length .u64 (List.replicate 16 0)).trans List.length_replicate).trans ((iv_length .u64 (List.replicate 16 0)).trans List.length_replicate).symm)) (fun w21 H => ?_)
          dsimp only [List.set] at H
          refine wc_run (T' := [(4, .pointer (some ⟨b5, 0, none⟩)), (5, .int .i64 2)]) (L2 := (rng 3 0)) 1 [4, 5] (by kernel_rfl) ?_
          refine wc_nil rfl ?_
          refine n_sq ?_
          refine wn_ret (by kernel_rfl) ?_
          refine r_sq ?_
          refine ret2 _ (Or.inr rfl) Try.results20 ⟨_, _, rfl, Ld.entW H 0 (n := 16) rfl (by kernel_rfl) (by exact (iv_length .u64 (List.replicate 16 0)).trans List.length_replicate)⟩ rfl ?_
          have he22 : payP p f t a = (List.replicate 16 0) := by
            unfold payP; rw [if_neg (by unfold payE; split <;> simp_all <;> omega)]
          have he23 : payE p f t a = (2 : Int) := by
            unfold payE; split <;> simp_all <;> omega
          exact ⟨by rw [he22, he23], H.nil, by exact payP_length hp _ _ _, by exact payP_B64 hb _ _ _⟩
        · rw [decide_eq_false hg20]
          refine wc_run (T' := [(2, .pointer (some ⟨b1, 0, none⟩)), (3, .pointer (some ⟨b3, 0, none⟩)), (4, .pointer (some ⟨b5, 0, none⟩)), (24, .bool false), (25, .pointer (some ⟨b3, 1, none⟩))]) (L2 := (rng 20 3)) 1 [2, 3, 4, 24, 25] (by kernel_rfl) ?_
          refine wc_ld (b := b3) (off := 1) (some 26) 3 (.int .i64 t) (by kernel_rfl) (Ld.ent1 H 1 rfl (by kernel_rfl) (by rfl)) ?_
          refine wc_run (T' := [(2, .pointer (some ⟨b1, 0, none⟩)), (3, .pointer (some ⟨b3, 0, none⟩)), (4, .pointer (some ⟨b5, 0, none⟩)), (28, .bool (decide (t > (15 : Int))))]) (L2 := (rng 23 0)) 2 [2, 3, 4, 28] (by kernel_rfl) ?_
          refine wc_nil rfl ?_
          refine n_sq ?_
          refine wn_cond (.tmp 28) (decide (t > (15 : Int))) (by kernel_rfl) rfl (fun hc24 => ?_) (fun hc24 => ?_)
          · have hc24 := of_decide_eq_true hc24
            refine wn_seq (by kernel_rfl) ?_
            refine wn_reg 3 (by kernel_rfl) ?_
            refine wc_run (T' := [(4, .pointer (some ⟨b5, 0, none⟩)), (29, .agg (iv .u64 (List.replicate 16 0)).toArray)]) (L2 := (rng 1 2)) 1 [4, 29] (by kernel_rfl) ?_
            refine wc_st (b := b5) (off := 0) (Tb := 24) (vs := (iv .u64 (List.replicate 16 0))) (cs' := (iv .u64 (List.replicate 16 0))) H 0 24 (.agg (iv .u64 (List.replicate 16 0)).toArray) 16 (by kernel_rfl) rfl rfl (by exact (iv_length .u64 (List.replicate 16 0)).trans List.length_replicate) (by have h := (iv_length .u64 (List.replicate 16 0)).trans List.length_replicate; omega) (by exact iv_flat _ _) (by exact blit_all _ _ (((iv_length .u64 (List.replicate 16 0)).trans List.length_replicate).trans ((iv_length .u64 (List.replicate 16 0)).trans List.length_replicate).symm)) (fun w25 H => ?_)
            dsimp only [List.set] at H
            refine wc_run (T' := [(4, .pointer (some ⟨b5, 0, none⟩)), (5, .int .i64 2)]) (L2 := (rng 3 0)) 1 [4, 5] (by kernel_rfl) ?_
            refine wc_nil rfl ?_
            refine n_sq ?_
            refine wn_ret (by kernel_rfl) ?_
            refine r_sq ?_
            refine ret2 _ (Or.inr rfl) Try.results20 ⟨_, _, rfl, Ld.entW H 0 (n := 16) rfl (by kernel_rfl) (by exact (iv_length .u64 (List.replicate 16 0)).trans List.length_replicate)⟩ rfl ?_
            have he26 : payP p f t a = (List.replicate 16 0) := by
              unfold payP; rw [if_neg (by unfold payE; split <;> simp_all <;> omega)]
            have he27 : payE p f t a = (2 : Int) := by
              unfold payE; split <;> simp_all <;> omega
            exact ⟨by rw [he26, he27], H.nil, by exact payP_length hp _ _ _, by exact payP_B64 hb _ _ _⟩
          · have hc24 := of_decide_eq_false hc24
            refine wn_skip (by kernel_rfl) ?_
            refine n_sq ?_
            refine wn_seq (by kernel_rfl) ?_
            refine wn_seq (by kernel_rfl) ?_
            refine wn_regD [] (ol [0, 1, 2, 3, 4, 5, 6]) (by kernel_rfl) H (fun w28 H => ?_)
            refine wc_run (T' := [(2, .pointer (some ⟨b1, 0, none⟩)), (3, .pointer (some ⟨b3, 0, none⟩)), (4, .pointer (some ⟨b5, 0, none⟩)), (30, .pointer (some ⟨b3, 2, none⟩))]) (L2 := (ol [1, 2, 3, 4, 5, 6])) 1 [2, 3, 4, 30] (by kernel_rfl) ?_
            refine wc_ld (b := b3) (off := 2) (some 31) 22 (.int .u64 a) (by kernel_rfl) (Ld.ent1 H 1 rfl (by kernel_rfl) (by rfl)) ?_
            refine wc_run (T' := [(2, .pointer (some ⟨b1, 0, none⟩)), (3, .pointer (some ⟨b3, 0, none⟩)), (4, .pointer (some ⟨b5, 0, none⟩)), (31, .int .u64 a), (32, .pointer (some ⟨b3, 0, none⟩))]) (L2 := (ol [3, 4, 5, 6])) 1 [2, 3, 4, 31, 32] (by kernel_rfl) ?_
            refine wc_ld (b := b3) (off := 0) (some 33) 3 (.int .i64 f) (by kernel_rfl) (Ld.ent1 H 1 rfl (by kernel_rfl) (by rfl)) ?_
            refine wc_ix (b := b1) (off := 0) (o' := f.toNat) (some 34) (some ⟨b1, 0, none⟩) 16 1 f (by kernel_rfl) rfl (by omega) (by omega) (by omega) ?_
            refine wc_ld (b := b1) (off := f.toNat) (some 35) 22 (.int .u64 (p.getD f.toNat 0)) (by kernel_rfl) (Ld.ent1 H 2 rfl (by kernel_rfl) (iv_get (by have h : p.length = _ := hp; omega))) ?_
            refine wc_run (T' := [(2, .pointer (some ⟨b1, 0, none⟩)), (3, .pointer (some ⟨b3, 0, none⟩)), (4, .pointer (some ⟨b5, 0, none⟩)), (36, .bool (decide (a > (p.getD f.toNat 0))))]) (L2 := (ol [])) 1 [2, 3, 4, 36] (by kernel_rfl) ?_
            refine wc_nil rfl ?_
            refine n_np ?_
            refine n_sq ?_
            refine wn_cond (.tmp 36) (decide (a > (p.getD f.toNat 0))) (by kernel_rfl) rfl (fun hc29 => ?_) (fun hc29 => ?_)
            · have hc29 := of_decide_eq_true hc29
              refine wn_seq (by kernel_rfl) ?_
              refine wn_reg 3 (by kernel_rfl) ?_
              refine wc_run (T' := [(4, .pointer (some ⟨b5, 0, none⟩)), (37, .agg (iv .u64 (List.replicate 16 0)).toArray)]) (L2 := (rng 1 2)) 1 [4, 37] (by kernel_rfl) ?_
              refine wc_st (b := b5) (off := 0) (Tb := 24) (vs := (iv .u64 (List.replicate 16 0))) (cs' := (iv .u64 (List.replicate 16 0))) H 0 24 (.agg (iv .u64 (List.replicate 16 0)).toArray) 16 (by kernel_rfl) rfl rfl (by exact (iv_length .u64 (List.replicate 16 0)).trans List.length_replicate) (by have h := (iv_length .u64 (List.replicate 16 0)).trans List.length_replicate; omega) (by exact iv_flat _ _) (by exact blit_all _ _ (((iv_length .u64 (List.replicate 16 0)).trans List.length_replicate).trans ((iv_length .u64 (List.replicate 16 0)).trans List.length_replicate).symm)) (fun w30 H => ?_)
              dsimp only [List.set] at H
              refine wc_run (T' := [(4, .pointer (some ⟨b5, 0, none⟩)), (5, .int .i64 190)]) (L2 := (rng 3 0)) 1 [4, 5] (by kernel_rfl) ?_
              refine wc_nil rfl ?_
              refine n_sq ?_
              refine wn_ret (by kernel_rfl) ?_
              refine r_sq ?_
              refine ret2 _ (Or.inr rfl) Try.results20 ⟨_, _, rfl, Ld.entW H 0 (n := 16) rfl (by kernel_rfl) (by exact (iv_length .u64 (List.replicate 16 0)).trans List.length_replicate)⟩ rfl ?_
              have he31 : payP p f t a = (List.replicate 16 0) := by
                unfold payP; rw [if_neg (by unfold payE; split <;> simp_all <;> omega)]
              have he32 : payE p f t a = (190 : Int) := by
                unfold payE; split <;> simp_all <;> omega
              exact ⟨by rw [he31, he32], H.nil, by exact payP_length hp _ _ _, by exact payP_B64 hb _ _ _⟩
            · have hc29 := of_decide_eq_false hc29
              refine wn_skip (by kernel_rfl) ?_
              refine n_sq ?_
              refine wn_seq (by kernel_rfl) ?_
              refine wn_regD [] (ol [0, 1, 2, 3, 4, 5, 6, 7, 8]) (by kernel_rfl) H (fun w33 H => ?_)
              refine wc_run (T' := [(2, .pointer (some ⟨b1, 0, none⟩)), (3, .pointer (some ⟨b3, 0, none⟩)), (4, .pointer (some ⟨b5, 0, none⟩)), (38, .pointer (some ⟨b3, 0, none⟩))]) (L2 := (ol [1, 2, 3, 4, 5, 6, 7, 8])) 1 [2, 3, 4, 38] (by kernel_rfl) ?_
              refine wc_ld (b := b3) (off := 0) (some 39) 3 (.int .i64 f) (by kernel_rfl) (Ld.ent1 H 1 rfl (by kernel_rfl) (by rfl)) ?_
              refine wc_ix (b := b1) (off := 0) (o' := f.toNat) (some 40) (some ⟨b1, 0, none⟩) 16 1 f (by kernel_rfl) rfl (by omega) (by omega) (by omega) ?_
              refine wc_ld (b := b1) (off := f.toNat) (some 41) 22 (.int .u64 (p.getD f.toNat 0)) (by kernel_rfl) (Ld.ent1 H 2 rfl (by kernel_rfl) (iv_get (by have h : p.length = _ := hp; omega))) ?_
              refine wc_run (T' := [(2, .pointer (some ⟨b1, 0, none⟩)), (3, .pointer (some ⟨b3, 0, none⟩)), (4, .pointer (some ⟨b5, 0, none⟩)), (39, .int .i64 f), (41, .int .u64 (p.getD f.toNat 0)), (42, .pointer (some ⟨b3, 2, none⟩))]) (L2 := (ol [5, 6, 7, 8])) 1 [2, 3, 4, 39, 41, 42] (by kernel_rfl) ?_
              refine wc_ld (b := b3) (off := 2) (some 43) 22 (.int .u64 a) (by kernel_rfl) (Ld.ent1 H 1 rfl (by kernel_rfl) (by rfl)) ?_
              refine wc_run (T' := [(2, .pointer (some ⟨b1, 0, none⟩)), (3, .pointer (some ⟨b3, 0, none⟩)), (4, .pointer (some ⟨b5, 0, none⟩)), (39, .int .i64 f), (44, .int .u64 (IntKind.u64.wrap ((p.getD f.toNat 0) - a)))]) (L2 := (ol [7, 8])) 1 [2, 3, 4, 39, 44] (by kernel_rfl) ?_
              refine wc_ix (b := b1) (off := 0) (o' := f.toNat) (some 45) (some ⟨b1, 0, none⟩) 16 1 f (by kernel_rfl) rfl (by omega) (by omega) (by omega) ?_
              refine wc_st (b := b1) (off := f.toNat) (Tb := 24) (vs := ([.int .u64 (IntKind.u64.wrap ((p.getD f.toNat 0) - a))])) (cs' := (iv .u64 (p.set f.toNat (IntKind.u64.wrap ((p.getD f.toNat 0) - a))))) H 2 22 (.int .u64 (IntKind.u64.wrap ((p.getD f.toNat 0) - a))) 1 (by kernel_rfl) rfl rfl (by rfl) (by have h := (iv_length .u64 p).trans hp; omega) (by simp [Value.oneCell']) (by exact iv_set _ _ _ _ (by have h : p.length = _ := hp; omega)) (fun w34 H => ?_)
              dsimp only [List.set] at H
              refine wc_nil rfl ?_
              refine n_np ?_
              refine n_sq ?_
              refine wn_seq (by kernel_rfl) ?_
              refine wn_regD [] (ol [0, 1, 2, 3, 4, 5, 6, 7, 8]) (by kernel_rfl) H (fun w35 H => ?_)
              refine wc_run (T' := [(2, .pointer (some ⟨b1, 0, none⟩)), (3, .pointer (some ⟨b3, 0, none⟩)), (4, .pointer (some ⟨b5, 0, none⟩)), (46, .pointer (some ⟨b3, 1, none⟩))]) (L2 := (ol [1, 2, 3, 4, 5, 6, 7, 8])) 1 [2, 3, 4, 46] (by kernel_rfl) ?_
              refine wc_ld (b := b3) (off := 1) (some 47) 3 (.int .i64 t) (by kernel_rfl) (Ld.ent1 H 1 rfl (by kernel_rfl) (by rfl)) ?_
              refine wc_ix (b := b1) (off := 0) (o' := t.toNat) (some 48) (some ⟨b1, 0, none⟩) 16 1 t (by kernel_rfl) rfl (by omega) (by omega) (by omega) ?_
              refine wc_ld (b := b1) (off := t.toNat) (some 49) 22 (.int .u64 ((p.set f.toNat (IntKind.u64.wrap ((p.getD f.toNat 0) - a))).getD t.toNat 0)) (by kernel_rfl) (Ld.ent1 H 2 rfl (by kernel_rfl) (iv_get (by have h : (p.set f.toNat (IntKind.u64.wrap ((p.getD f.toNat 0) - a))).length = _ := ((List.length_set ..).trans hp); omega))) ?_
              refine wc_run (T' := [(2, .pointer (some ⟨b1, 0, none⟩)), (4, .pointer (some ⟨b5, 0, none⟩)), (47, .int .i64 t), (49, .int .u64 ((p.set f.toNat (IntKind.u64.wrap ((p.getD f.toNat 0) - a))).getD t.toNat 0)), (50, .pointer (some ⟨b3, 2, none⟩))]) (L2 := (ol [5, 6, 7, 8])) 1 [2, 4, 47, 49, 50] (by kernel_rfl) ?_
              refine wc_ld (b := b3) (off := 2) (some 51) 22 (.int .u64 a) (by kernel_rfl) (Ld.ent1 H 1 rfl (by kernel_rfl) (by rfl)) ?_
              refine wc_run (T' := [(2, .pointer (some ⟨b1, 0, none⟩)), (4, .pointer (some ⟨b5, 0, none⟩)), (47, .int .i64 t), (52, .int .u64 (IntKind.u64.wrap (((p.set f.toNat (IntKind.u64.wrap ((p.getD f.toNat 0) - a))).getD t.toNat 0) + a)))]) (L2 := (ol [7, 8])) 1 [2, 4, 47, 52] (by kernel_rfl) ?_
              refine wc_ix (b := b1) (off := 0) (o' := t.toNat) (some 53) (some ⟨b1, 0, none⟩) 16 1 t (by kernel_rfl) rfl (by omega) (by omega) (by omega) ?_
              refine wc_st (b := b1) (off := t.toNat) (Tb := 24) (vs := ([.int .u64 (IntKind.u64.wrap (((p.set f.toNat (IntKind.u64.wrap ((p.getD f.toNat 0) - a))).getD t.toNat 0) + a))])) (cs' := (iv .u64 ((p.set f.toNat (IntKind.u64.wrap ((p.getD f.toNat 0) - a))).set t.toNat (IntKind.u64.wrap (((p.set f.toNat (IntKind.u64.wrap ((p.getD f.toNat 0) - a))).getD t.toNat 0) + a))))) H 2 22 (.int .u64 (IntKind.u64.wrap (((p.set f.toNat (IntKind.u64.wrap ((p.getD f.toNat 0) - a))).getD t.toNat 0) + a))) 1 (by kernel_rfl) rfl rfl (by rfl) (by have h := (iv_length .u64 (p.set f.toNat (IntKind.u64.wrap ((p.getD f.toNat 0) - a)))).trans ((List.length_set ..).trans hp); omega) (by simp [Value.oneCell']) (by exact iv_set _ _ _ _ (by have h : (p.set f.toNat (IntKind.u64.wrap ((p.getD f.toNat 0) - a))).length = _ := ((List.length_set ..).trans hp); omega)) (fun w36 H => ?_)
              dsimp only [List.set] at H
              refine wc_nil rfl ?_
              refine n_np ?_
              refine n_sq ?_
              refine wn_seq (by kernel_rfl) ?_
              refine wn_reg 3 (by kernel_rfl) ?_
              refine wc_ld (b := b1) (off := 0) (some 54) 24 (.agg (iv .u64 ((p.set f.toNat (IntKind.u64.wrap ((p.getD f.toNat 0) - a))).set t.toNat (IntKind.u64.wrap (((p.set f.toNat (IntKind.u64.wrap ((p.getD f.toNat 0) - a))).getD t.toNat 0) + a)))).toArray) (by kernel_rfl) (Ld.entW H 2 (n := 16) rfl (by kernel_rfl) (by first | (simp only [iv_length, List.length_set, List.length_replicate, *]; done) | (simp [iv_length, *]; done) | (simp [Value.cells, iv_length, *]; done) | omega | (simp [Value.cells, iv_length] <;> omega))) ?_
              refine wc_st (b := b5) (off := 0) (Tb := 24) (vs := (iv .u64 ((p.set f.toNat (IntKind.u64.wrap ((p.getD f.toNat 0) - a))).set t.toNat (IntKind.u64.wrap (((p.set f.toNat (IntKind.u64.wrap ((p.getD f.toNat 0) - a))).getD t.toNat 0) + a))))) (cs' := (iv .u64 ((p.set f.toNat (IntKind.u64.wrap ((p.getD f.toNat 0) - a))).set t.toNat (IntKind.u64.wrap (((p.set f.toNat (IntKind.u64.wrap ((p.getD f.toNat 0) - a))).getD t.toNat 0) + a))))) H 0 24 (.agg (iv .u64 ((p.set f.toNat (IntKind.u64.wrap ((p.getD f.toNat 0) - a))).set t.toNat (IntKind.u64.wrap (((p.set f.toNat (IntKind.u64.wrap ((p.getD f.toNat 0) - a))).getD t.toNat 0) + a)))).toArray) 16 (by kernel_rfl) rfl rfl (by first | (simp only [iv_length, List.length_set, List.length_replicate, *]; done) | (simp [iv_length, *]; done) | (simp [Value.cells, iv_length, *]; done) | omega | (simp [Value.cells, iv_length] <;> omega)) (by have h := (iv_length .u64 (List.replicate 16 0)).trans List.length_replicate; omega) (by exact iv_flat _ _) (by first | rfl | exact blit_all _ _ (by first | (simp only [iv_length, List.length_set, List.length_replicate, *]; done) | (simp [iv_length, *]; done) | (simp [Value.cells, iv_length, *]; done) | omega | (simp [Value.cells, iv_length] <;> omega)) | (simp [blit, List.drop_append, List.take_append, iv_length, *]; done)) (fun w37 H => ?_)
              dsimp only [List.set] at H
              refine wc_run (T' := [(4, .pointer (some ⟨b5, 0, none⟩)), (5, .int .i64 0)]) (L2 := (rng 3 0)) 1 [4, 5] (by kernel_rfl) ?_
              refine wc_nil rfl ?_
              refine n_sq ?_
              refine wn_ret (by kernel_rfl) ?_
              refine ret2 _ (Or.inr rfl) Try.results20 ⟨_, _, rfl, Ld.entW H 0 (n := 16) rfl (by kernel_rfl) (by first | (simp only [iv_length, List.length_set, List.length_replicate, *]; done) | (simp [iv_length, *]; done) | (simp [Value.cells, iv_length, *]; done) | omega | (simp [Value.cells, iv_length] <;> omega))⟩ rfl ?_
              have he38 : payP p f t a = (p.set f.toNat (IntKind.u64.wrap ((p.getD f.toNat 0) - a))).set t.toNat (IntKind.u64.wrap (((p.set f.toNat (IntKind.u64.wrap ((p.getD f.toNat 0) - a))).getD t.toNat 0) + a)) := by
                unfold payP; rw [if_pos (by unfold payE; split <;> simp_all <;> omega)]; rfl
              have he39 : payE p f t a = (0 : Int) := by
                unfold payE; split <;> simp_all <;> omega
              exact ⟨by rw [he38, he39], H.nil, by exact payP_length hp _ _ _, by exact payP_B64 hb _ _ _⟩

noncomputable def cd_proctorref19_All : Code := (Try.f16.body).getD .skip
theorem proctorref19_All (w : World) (p : List Int) (l : List Mv) (A : Option Addr) (c : Nat) (hp : p.length = 16) (hb : B64 p) (hl : Rd w A (mvC l)) (hn : l.length ≤ 140737488351232) :
    Calls Try.prog 16 #[.agg (iv .u64 p).toArray, .slice A l.length c] w (fun e w' => e = .returned (.tuple #[.agg (iv .u64 ((allF p l).1)).toArray, .int .i64 ((allF p l).2.1), .int .i64 ((allF p l).2.2)]) ∧ Hp [] w w' [] ∧ (allF p l).1.length = 16 ∧ B64 (allF p l).1) := by
  refine enter (args := [_, _]) (c := cd_proctorref19_All) (N := 38) Try.func16 (by kernel_rfl) (by kernel_rfl) (by simp) ?_
  have H := Hp.start w
  refine wn_seq (by kernel_rfl) ?_
  refine wn_reg 4 (by kernel_rfl) ?_
  refine wc_new H (some 2) (row (iv .u64 p) 24) (fun r => .pointer (some ⟨r, 0, none⟩)) (by kernel_rfl) (fun b1 w2 H => ?_)
  refine wc_new H (some 4) (row (iv .u64 (List.replicate 16 0)) 24) (fun r => .pointer (some ⟨r, 0, none⟩)) (by kernel_rfl) (fun b3 w4 H => ?_)
  refine wc_run (T' := [(1, .slice A l.length c), (2, .pointer (some ⟨b1, 0, none⟩)), (4, .pointer (some ⟨b3, 0, none⟩))]) (L2 := (rng 4 0)) 2 [1, 2, 4] (by kernel_rfl) ?_
  refine wc_nil rfl ?_
  refine n_sq ?_
  refine wn_seq (by kernel_rfl) ?_
  refine wn_seq (by kernel_rfl) ?_
  refine wn_reg 3 (by kernel_rfl) ?_
  refine wc_ld (b := b1) (off := 0) (some 10) 24 (.agg (iv .u64 p).toArray) (by kernel_rfl) (Ld.entW H 1 (n := 16) rfl (by kernel_rfl) (by exact (iv_length .u64 p).trans hp)) ?_
  refine wc_call (some 11) (by kernel_rfl) (proctorref19_May w4 p (by first | assumption | omega | (simp_all; done)) (by first | assumption | omega | (simp_all; done))) ?_
  rintro _ w5 ⟨rfl, H1⟩
  refine ⟨_, rfl, fun _ => H1.keep, ?_⟩
  replace H := H.call H1
  simp only [List.nil_append] at H
  refine wc_run (T' := [(1, .slice A l.length c), (2, .pointer (some ⟨b1, 0, none⟩)), (4, .pointer (some ⟨b3, 0, none⟩)), (12, .bool (!(mayP p)))]) (L2 := (rng 3 0)) 1 [1, 2, 4, 12] (by kernel_rfl) ?_
  refine wc_nil rfl ?_
  refine n_sq ?_
  refine wn_cond (.tmp 12) (!(mayP p)) (by kernel_rfl) rfl (fun hc6 => ?_) (fun hc6 => ?_)
  · have hc6 := notT hc6
    refine wn_seq (by kernel_rfl) ?_
    refine wn_reg 4 (by kernel_rfl) ?_
    refine wc_run (T' := [(4, .pointer (some ⟨b3, 0, none⟩)), (13, .agg (iv .u64 (List.replicate 16 0)).toArray)]) (L2 := (rng 1 3)) 1 [4, 13] (by kernel_rfl) ?_
    refine wc_st (b := b3) (off := 0) (Tb := 24) (vs := (iv .u64 (List.replicate 16 0))) (cs' := (iv .u64 (List.replicate 16 0))) H 0 24 (.agg (iv .u64 (List.replicate 16 0)).toArray) 16 (by kernel_rfl) rfl rfl (by exact (iv_length .u64 (List.replicate 16 0)).trans List.length_replicate) (by have h := (iv_length .u64 (List.replicate 16 0)).trans List.length_replicate; omega) (by exact iv_flat _ _) (by exact blit_all _ _ (((iv_length .u64 (List.replicate 16 0)).trans List.length_replicate).trans ((iv_length .u64 (List.replicate 16 0)).trans List.length_replicate).symm)) (fun w7 H => ?_)
    dsimp only [List.set] at H
    refine wc_run (T' := [(4, .pointer (some ⟨b3, 0, none⟩)), (5, .int .i64 0), (6, .int .i64 2)]) (L2 := (rng 4 0)) 2 [4, 5, 6] (by kernel_rfl) ?_
    refine wc_nil rfl ?_
    refine n_sq ?_
    refine wn_ret (by kernel_rfl) ?_
    refine r_sq ?_
    refine ret3 _ (Or.inr rfl) Try.results16 ⟨_, _, rfl, Ld.entW H 0 (n := 16) rfl (by kernel_rfl) (by exact (iv_length .u64 (List.replicate 16 0)).trans List.length_replicate)⟩ rfl rfl ?_
    have he8 : (allF p l).1 = (List.replicate 16 0) := by
      simp_all [allF, zeros]
    have he9 : (allF p l).2.1 = (0 : Int) := by
      simp_all [allF, zeros]
    have he10 : (allF p l).2.2 = (2 : Int) := by
      simp_all [allF, zeros]
    exact ⟨by rw [he8, he9, he10], H.nil, by exact (allF_ok hp hb).1, by exact (allF_ok hp hb).2⟩
  · have hc6 := notF hc6
    refine wn_skip (by kernel_rfl) ?_
    refine n_sq ?_
    refine wn_seq (by kernel_rfl) ?_
    refine wn_seq (by kernel_rfl) ?_
    refine wn_reg 1 (by kernel_rfl) ?_
    refine wc_run (T' := [(1, .slice A l.length c), (2, .pointer (some ⟨b1, 0, none⟩)), (4, .pointer (some ⟨b3, 0, none⟩)), (7, .int .i64 0)]) (L2 := (rng 1 0)) 1 [1, 2, 4, 7] (by kernel_rfl) ?_
    refine wc_nil rfl ?_
    refine n_sq ?_
    refine wn_block 0 (by kernel_rfl) ?_
    refine wn_loop (fun ((i, q) : Int × List Int) => [(1, .slice A l.length c), (2, .pointer (some ⟨b1, 0, none⟩)), (4, .pointer (some ⟨b3, 0, none⟩)), (7, .int .i64 i)]) (fun ((i, q) : Int × List Int) w' => Hp [] w w' [(b3, row (iv .u64 (List.replicate 16 0)) 24), (b1, row (iv .u64 q) 24)] ∧ 0 ≤ i ∧ i ≤ l.length ∧ q.length = 16 ∧ B64 q ∧ allP q (l.drop i.toNat) i = allF p l) (fun ((i, q) : Int × List Int) => (l.length - i).toNat) ((0 : Int), p) [1, 2, 4, 7] (by kernel_rfl) rfl ⟨H, by simp_all [allF]⟩ ?_
    rintro ⟨i, q⟩ w11 ⟨H, hi⟩
    try dsimp only at H hi
    refine wn_pick (T' := [(1, .slice A l.length c), (2, .pointer (some ⟨b1, 0, none⟩)), (4, .pointer (some ⟨b3, 0, none⟩)), (7, .int .i64 i)]) [1, 2, 4, 7] (by kernel_rfl) ?_
    refine wn_seq (by kernel_rfl) ?_
    refine wn_seq (by kernel_rfl) ?_
    refine wn_reg 4 (by kernel_rfl) ?_
    refine wc_run (T' := [(1, .slice A l.length c), (2, .pointer (some ⟨b1, 0, none⟩)), (4, .pointer (some ⟨b3, 0, none⟩)), (7, .int .i64 i), (17, .bool (decide (i < (↑l.length : Int))))]) (L2 := (rng 4 0)) 4 [1, 2, 4, 7, 17] (by kernel_rfl) ?_
    refine wc_nil rfl ?_
    refine n_sq ?_
    refine wn_cond (.tmp 17) (decide (i < (↑l.length : Int))) (by kernel_rfl) rfl (fun hc12 => ?_) (fun hc12 => ?_)
    · have hc12 := of_decide_eq_true hc12
      refine wn_skip (by kernel_rfl) ?_
      refine n_sq ?_
      refine wn_seq (by kernel_rfl) ?_
      refine wn_block 1 (by kernel_rfl) ?_
      refine wn_cut (fun (bc13 : Nat) => [(1, .slice A l.length c), (2, .pointer (some ⟨b1, 0, none⟩)), (4, .pointer (some ⟨b3, 0, none⟩)), (7, .int .i64 i), (8, .pointer (some ⟨bc13, 0, none⟩)), (9, .int .i64 (payE q ((l.getD i.toNat default).1) ((l.getD i.toNat default).2.1) ((l.getD i.toNat default).2.2)))]) (fun (bc13 : Nat) w' => Hp [] w w' [(bc13, row (iv .u64 (payP q ((l.getD i.toNat default).1) ((l.getD i.toNat default).2.1) ((l.getD i.toNat default).2.2))) 24), (b3, row (iv .u64 (List.replicate 16 0)) 24), (b1, row (iv .u64 q) 24)] ∧ (payP q ((l.getD i.toNat default).1) ((l.getD i.toNat default).2.1) ((l.getD i.toNat default).2.2)).length = 16 ∧ B64 (payP q ((l.getD i.toNat default).1) ((l.getD i.toNat default).2.1) ((l.getD i.toNat default).2.2))) (by kernel_rfl) ?_ ?_
      · refine wn_regD [] (ob [0, 1, 2, 3, 4] (ol [5, 6, 7, 8, 9, 10, 11]) (ol [9, 5, 6, 7, 8, 10, 11])) (by kernel_rfl) H (fun w14 H => ?_)
        refine wc_ld (b := b1) (off := 0) (some 21) 24 (.agg (iv .u64 q).toArray) (by kernel_rfl) (Ld.entW H 1 (n := 16) rfl (by kernel_rfl) (by first | (simp only [iv_length, List.length_set, List.length_replicate, *]; done) | (simp [iv_length, *]; done) | (simp [Value.cells, iv_length, *]; done) | omega | (simp [Value.cells, iv_length] <;> omega))) ?_
        refine wc_run (T' := [(1, .slice A l.length c), (2, .pointer (some ⟨b1, 0, none⟩)), (4, .pointer (some ⟨b3, 0, none⟩)), (7, .int .i64 i), (21, .agg (iv .u64 q).toArray), (22, .slice A l.length c), (23, .int .i64 i)]) (L2 := (ob [3, 4] (ol [5, 6, 7, 8, 9, 10, 11]) (ol [9, 5, 6, 7, 8, 10, 11]))) 2 [1, 2, 4, 7, 21, 22, 23] (by kernel_rfl) ?_
        obtain ⟨b15, o16, hA17, hl18, hm19⟩ := Rd.at (hl.keep H.keep) (by intro hne; have := congrArg List.length hne; simp [mvC_length] at this; omega)
        refine wc_ix (P := Try.prog) (b := b15) (off := o16) (o' := o16 + i.toNat * 3) (some 24) A l.length 3 i (by kernel_rfl) hA17 (by omega) (by omega) (by omega) ?_
        refine wc_ld (b := b15) (off := o16 + i.toNat * 3) (some 25) 39 (.agg #[.int .i64 ((l.getD i.toNat default).1), .int .i64 ((l.getD i.toNat default).2.1), .int .u64 ((l.getD i.toNat default).2.2)]) (by kernel_rfl) (hm19 39 3 (i.toNat * 3) _ (by kernel_rfl) (by kernel_rfl) (by simp [mvC_length]; omega) (by exact mvC_at (by omega))) ?_
        refine wc_br rfl ?_ ?_
        · refine wc_call (some 26) (by kernel_rfl) (proctorref19_Pay w14 q ((l.getD i.toNat default).1) ((l.getD i.toNat default).2.1) ((l.getD i.toNat default).2.2) (by first | assumption | omega | (simp_all; done)) (by first | assumption | omega | (simp_all; done))) ?_
          rintro _ w20 ⟨rfl, H1, hf21, hf22⟩
          refine ⟨_, rfl, fun _ => H1.keep, ?_⟩
          replace H := H.call H1
          simp only [List.nil_append] at H
          refine wc_run (T' := [(1, .slice A l.length c), (2, .pointer (some ⟨b1, 0, none⟩)), (4, .pointer (some ⟨b3, 0, none⟩)), (7, .int .i64 i), (27, .agg (iv .u64 (payP q ((l.getD i.toNat default).1) ((l.getD i.toNat default).2.1) ((l.getD i.toNat default).2.2))).toArray), (28, .int .i64 (payE q ((l.getD i.toNat default).1) ((l.getD i.toNat default).2.1) ((l.getD i.toNat default).2.2)))]) (L2 := (ol [9, 10, 11])) 3 [1, 2, 4, 7, 27, 28] (by kernel_rfl) ?_
          refine wc_new H (some 8) (row (iv .u64 (List.replicate 16 0)) 24) (fun r => .pointer (some ⟨r, 0, none⟩)) (by kernel_rfl) (fun b23 w24 H => ?_)
          refine wc_st (b := b23) (off := 0) (Tb := 24) (vs := (iv .u64 (payP q ((l.getD i.toNat default).1) ((l.getD i.toNat default).2.1) ((l.getD i.toNat default).2.2)))) (cs' := (iv .u64 (payP q ((l.getD i.toNat default).1) ((l.getD i.toNat default).2.1) ((l.getD i.toNat default).2.2)))) H 0 24 (.agg (iv .u64 (payP q ((l.getD i.toNat default).1) ((l.getD i.toNat default).2.1) ((l.getD i.toNat default).2.2))).toArray) 16 (by kernel_rfl) rfl rfl (by exact (iv_length .u64 (payP q ((l.getD i.toNat default).1) ((l.getD i.toNat default).2.1) ((l.getD i.toNat default).2.2))).trans hf21) (by have h := (iv_length .u64 (List.replicate 16 0)).trans List.length_replicate; omega) (by exact iv_flat _ _) (by exact blit_all _ _ (((iv_length .u64 (payP q ((l.getD i.toNat default).1) ((l.getD i.toNat default).2.1) ((l.getD i.toNat default).2.2))).trans hf21).trans ((iv_length .u64 (List.replicate 16 0)).trans List.length_replicate).symm)) (fun w25 H => ?_)
          dsimp only [List.set] at H
          refine wc_run (T' := [(1, .slice A l.length c), (2, .pointer (some ⟨b1, 0, none⟩)), (4, .pointer (some ⟨b3, 0, none⟩)), (7, .int .i64 i), (8, .pointer (some ⟨b23, 0, none⟩)), (9, .int .i64 (payE q ((l.getD i.toNat default).1) ((l.getD i.toNat default).2.1) ((l.getD i.toNat default).2.2)))]) (L2 := (ol [])) 1 [1, 2, 4, 7, 8, 9] (by kernel_rfl) ?_
          refine wc_nil rfl ?_
          refine n_np ?_
          exact cut_end (b23) [1, 2, 4, 7, 8, 9] (by kernel_rfl) ⟨H, hf21, hf22⟩
        · refine wc_new H (some 8) (row (iv .u64 (List.replicate 16 0)) 24) (fun r => .pointer (some ⟨r, 0, none⟩)) (by kernel_rfl) (fun b26 w27 H => ?_)
          refine wc_call (some 26) (by kernel_rfl) (proctorref19_Pay w27 q ((l.getD i.toNat default).1) ((l.getD i.toNat default).2.1) ((l.getD i.toNat default).2.2) (by first | assumption | omega | (simp_all; done)) (by first | assumption | omega | (simp_all; done))) ?_
          rintro _ w28 ⟨rfl, H1, hf29, hf30⟩
          refine ⟨_, rfl, fun _ => H1.keep, ?_⟩
          replace H := H.call H1
          simp only [List.nil_append] at H
          refine wc_run (T' := [(1, .slice A l.length c), (2, .pointer (some ⟨b1, 0, none⟩)), (4, .pointer (some ⟨b3, 0, none⟩)), (7, .int .i64 i), (8, .pointer (some ⟨b26, 0, none⟩)), (27, .agg (iv .u64 (payP q ((l.getD i.toNat default).1) ((l.getD i.toNat default).2.1) ((l.getD i.toNat default).2.2))).toArray), (28, .int .i64 (payE q ((l.getD i.toNat default).1) ((l.getD i.toNat default).2.1) ((l.getD i.toNat default).2.2)))]) (L2 := (ol [10, 11])) 3 [1, 2, 4, 7, 8, 27, 28] (by kernel_rfl) ?_
          refine wc_st (b := b26) (off := 0) (Tb := 24) (vs := (iv .u64 (payP q ((l.getD i.toNat default).1) ((l.getD i.toNat default).2.1) ((l.getD i.toNat default).2.2)))) (cs' := (iv .u64 (payP q ((l.getD i.toNat default).1) ((l.getD i.toNat default).2.1) ((l.getD i.toNat default).2.2)))) H 0 24 (.agg (iv .u64 (payP q ((l.getD i.toNat default).1) ((l.getD i.toNat default).2.1) ((l.getD i.toNat default).2.2))).toArray) 16 (by kernel_rfl) rfl rfl (by exact (iv_length .u64 (payP q ((l.getD i.toNat default).1) ((l.getD i.toNat default).2.1) ((l.getD i.toNat default).2.2))).trans hf29) (by have h := (iv_length .u64 (List.replicate 16 0)).trans List.length_replicate; omega) (by exact iv_flat _ _) (by exact blit_all _ _ (((iv_length .u64 (payP q ((l.getD i.toNat default).1) ((l.getD i.toNat default).2.1) ((l.getD i.toNat default).2.2))).trans hf29).trans ((iv_length .u64 (List.replicate 16 0)).trans List.length_replicate).symm)) (fun w31 H => ?_)
          dsimp only [List.set] at H
          refine wc_run (T' := [(1, .slice A l.length c), (2, .pointer (some ⟨b1, 0, none⟩)), (4, .pointer (some ⟨b3, 0, none⟩)), (7, .int .i64 i), (8, .pointer (some ⟨b26, 0, none⟩)), (9, .int .i64 (payE q ((l.getD i.toNat default).1) ((l.getD i.toNat default).2.1) ((l.getD i.toNat default).2.2)))]) (L2 := (ol [])) 1 [1, 2, 4, 7, 8, 9] (by kernel_rfl) ?_
          refine wc_nil rfl ?_
          refine n_np ?_
          exact cut_end (b26) [1, 2, 4, 7, 8, 9] (by kernel_rfl) ⟨H, hf29, hf30⟩
      rintro bc13 w32 ⟨H, hf33, hf34⟩
      try dsimp only at H hf33 hf34
      refine wn_pick (T' := [(1, .slice A l.length c), (2, .pointer (some ⟨b1, 0, none⟩)), (4, .pointer (some ⟨b3, 0, none⟩)), (7, .int .i64 i), (8, .pointer (some ⟨bc13, 0, none⟩)), (9, .int .i64 (payE q ((l.getD i.toNat default).1) ((l.getD i.toNat default).2.1) ((l.getD i.toNat default).2.2)))]) [1, 2, 4, 7, 8, 9] (by kernel_rfl) ?_
      refine wn_seq (by kernel_rfl) ?_
      refine wn_seq (by kernel_rfl) ?_
      refine wn_reg 2 (by kernel_rfl) ?_
      refine wc_run (T' := [(1, .slice A l.length c), (2, .pointer (some ⟨b1, 0, none⟩)), (4, .pointer (some ⟨b3, 0, none⟩)), (7, .int .i64 i), (8, .pointer (some ⟨bc13, 0, none⟩)), (9, .int .i64 (payE q ((l.getD i.toNat default).1) ((l.getD i.toNat default).2.1) ((l.getD i.toNat default).2.2))), (30, .bool ((payE q ((l.getD i.toNat default).1) ((l.getD i.toNat default).2.1) ((l.getD i.toNat default).2.2)) != (0 : Int)))]) (L2 := (rng 2 0)) 2 [1, 2, 4, 7, 8, 9, 30] (by kernel_rfl) ?_
      refine wc_nil rfl ?_
      refine n_sq ?_
      refine wn_cond (.tmp 30) ((payE q ((l.getD i.toNat default).1) ((l.getD i.toNat default).2.1) ((l.getD i.toNat default).2.2)) != (0 : Int)) (by kernel_rfl) rfl (fun hc35 => ?_) (fun hc35 => ?_)
      · have hc35 := bneT hc35
        refine wn_seq (by kernel_rfl) ?_
        refine wn_reg 6 (by kernel_rfl) ?_
        refine wc_run (T' := [(4, .pointer (some ⟨b3, 0, none⟩)), (31, .agg (iv .u64 (List.replicate 16 0)).toArray), (32, .int .i64 i), (33, .int .i64 (payE q ((l.getD i.toNat default).1) ((l.getD i.toNat default).2.1) ((l.getD i.toNat default).2.2)))]) (L2 := (rng 3 3)) 3 [4, 31, 32, 33] (by kernel_rfl) ?_
        refine wc_st (b := b3) (off := 0) (Tb := 24) (vs := (iv .u64 (List.replicate 16 0))) (cs' := (iv .u64 (List.replicate 16 0))) H 1 24 (.agg (iv .u64 (List.replicate 16 0)).toArray) 16 (by kernel_rfl) rfl rfl (by exact (iv_length .u64 (List.replicate 16 0)).trans List.length_replicate) (by have h := (iv_length .u64 (List.replicate 16 0)).trans List.length_replicate; omega) (by exact iv_flat _ _) (by exact blit_all _ _ (((iv_length .u64 (List.replicate 16 0)).trans List.length_replicate).trans ((iv_length .u64 (List.replicate 16 0)).trans List.length_replicate).symm)) (fun w36 H => ?_)
        dsimp only [List.set] at H
        refine wc_run (T' := [(4, .pointer (some ⟨b3, 0, none⟩)), (5, .int .i64 i), (6, .int .i64 (payE q ((l.getD i.toNat default).1) ((l.getD i.toNat default).2.1) ((l.getD i.toNat default).2.2)))]) (L2 := (rng 6 0)) 2 [4, 5, 6] (by kernel_rfl) ?_
        refine wc_nil rfl ?_
        refine n_sq ?_
        refine wn_ret (by kernel_rfl) ?_
        refine r_sq ?_
        refine r_blk ?_
        refine r_sq ?_
        refine r_then ?_
        refine r_blk ?_
        refine r_sq ?_
        refine ret3 _ (Or.inr rfl) Try.results16 ⟨_, _, rfl, Ld.entW H 1 (n := 16) rfl (by kernel_rfl) (by exact (iv_length .u64 (List.replicate 16 0)).trans List.length_replicate)⟩ rfl rfl ?_
        have he37 : (allF p l).1 = (List.replicate 16 0) := by
          obtain ⟨h1, h2, h3, h4, h5⟩ := hi
          have hs := allP_step (p := q) (l := l) (i := i.toNat) (k := i) (by omega)
          rw [if_neg (by simp_all)] at hs
          rw [← h5, hs]; try rfl
        have he38 : (allF p l).2.1 = i := by
          obtain ⟨h1, h2, h3, h4, h5⟩ := hi
          have hs := allP_step (p := q) (l := l) (i := i.toNat) (k := i) (by omega)
          rw [if_neg (by simp_all)] at hs
          rw [← h5, hs]; try rfl
        have he39 : (allF p l).2.2 = payE q ((l.getD i.toNat default).1) ((l.getD i.toNat default).2.1) ((l.getD i.toNat default).2.2) := by
          obtain ⟨h1, h2, h3, h4, h5⟩ := hi
          have hs := allP_step (p := q) (l := l) (i := i.toNat) (k := i) (by omega)
          rw [if_neg (by simp_all)] at hs
          rw [← h5, hs]; try rfl
        exact ⟨by rw [he37, he38, he39], H.nil, by exact (allF_ok hp hb).1, by exact (allF_ok hp hb).2⟩
      · have hc35 := bneF hc35
        refine wn_skip (by kernel_rfl) ?_
        refine n_sq ?_
        refine wn_reg 2 (by kernel_rfl) ?_
        refine wc_ld (b := bc13) (off := 0) (some 34) 24 (.agg (iv .u64 (payP q ((l.getD i.toNat default).1) ((l.getD i.toNat default).2.1) ((l.getD i.toNat default).2.2))).toArray) (by kernel_rfl) (Ld.entW H 0 (n := 16) rfl (by kernel_rfl) (by exact (iv_length .u64 (payP q ((l.getD i.toNat default).1) ((l.getD i.toNat default).2.1) ((l.getD i.toNat default).2.2))).trans hf33)) ?_
        refine wc_st (b := b1) (off := 0) (Tb := 24) (vs := (iv .u64 (payP q ((l.getD i.toNat default).1) ((l.getD i.toNat default).2.1) ((l.getD i.toNat default).2.2)))) (cs' := (iv .u64 (payP q ((l.getD i.toNat default).1) ((l.getD i.toNat default).2.1) ((l.getD i.toNat default).2.2)))) H 2 24 (.agg (iv .u64 (payP q ((l.getD i.toNat default).1) ((l.getD i.toNat default).2.1) ((l.getD i.toNat default).2.2))).toArray) 16 (by kernel_rfl) rfl rfl (by exact (iv_length .u64 (payP q ((l.getD i.toNat default).1) ((l.getD i.toNat default).2.1) ((l.getD i.toNat default).2.2))).trans hf33) (by first | (simp only [iv_length, List.length_set, List.length_replicate, *]; done) | (simp [iv_length, *]; done) | (simp [Value.cells, iv_length, *]; done) | omega | (simp [Value.cells, iv_length] <;> omega)) (by exact iv_flat _ _) (by first | rfl | exact blit_all _ _ (by first | (simp only [iv_length, List.length_set, List.length_replicate, *]; done) | (simp [iv_length, *]; done) | (simp [Value.cells, iv_length, *]; done) | omega | (simp [Value.cells, iv_length] <;> omega)) | (simp [blit, List.drop_append, List.take_append, iv_length, *]; done)) (fun w40 H => ?_)
        dsimp only [List.set] at H
        refine wc_nil rfl ?_
        refine n_blk ?_
        refine n_sq ?_
        refine wn_reg 3 (by kernel_rfl) ?_
        refine wc_run (T' := [(1, .slice A l.length c), (2, .pointer (some ⟨b1, 0, none⟩)), (4, .pointer (some ⟨b3, 0, none⟩)), (19, .int .i64 (IntKind.i64.wrap (i + 1)))]) (L2 := (rng 2 1)) 2 [1, 2, 4, 19] (by kernel_rfl) ?_
        rw [wi64 (x := i + 1) (by omega) (by omega)]
        refine wc_run (T' := [(1, .slice A l.length c), (2, .pointer (some ⟨b1, 0, none⟩)), (4, .pointer (some ⟨b3, 0, none⟩)), (7, .int .i64 (i + 1))]) (L2 := (rng 3 0)) 1 [1, 2, 4, 7] (by kernel_rfl) ?_
        refine wc_nil rfl ?_
        refine round_end (i + 1, payP q ((l.getD i.toNat default).1) ((l.getD i.toNat default).2.1) ((l.getD i.toNat default).2.2)) [1, 2, 4, 7] (by kernel_rfl) ⟨H.sub (by repeat first | exact List.Sublist.slnil | apply List.Sublist.cons_cons | apply List.Sublist.cons), ?_⟩ ?_
        · obtain ⟨h1, h2, h3, h4, h5⟩ := hi
          have hs := allP_step (p := q) (l := l) (i := i.toNat) (k := i) (by omega)
          have he : (i + 1).toNat = i.toNat + 1 := by omega
          rw [if_pos (by simp_all)] at hs
          rw [he]
          exact ⟨by omega, by omega, payP_length h3 _ _ _, payP_B64 h4 _ _ _, by rw [← hs]; exact h5⟩
        · first | omega | (dsimp only; omega)
    · have hc12 := of_decide_eq_false hc12
      refine wn_exit 0 (by kernel_rfl) ?_
      refine e_sq ?_
      refine e_then ?_
      refine e_blk ?_
      refine n_sq ?_
      refine wn_seq (by kernel_rfl) ?_
      refine wn_reg 6 (by kernel_rfl) ?_
      refine wc_ld (b := b1) (off := 0) (some 35) 24 (.agg (iv .u64 q).toArray) (by kernel_rfl) (Ld.entW H 1 (n := 16) rfl (by kernel_rfl) (by first | (simp only [iv_length, List.length_set, List.length_replicate, *]; done) | (simp [iv_length, *]; done) | (simp [Value.cells, iv_length, *]; done) | omega | (simp [Value.cells, iv_length] <;> omega))) ?_
      refine wc_run (T' := [(4, .pointer (some ⟨b3, 0, none⟩)), (35, .agg (iv .u64 q).toArray), (37, .int .i64 (↑l.length : Int))]) (L2 := (rng 3 3)) 2 [4, 35, 37] (by kernel_rfl) ?_
      refine wc_st (b := b3) (off := 0) (Tb := 24) (vs := (iv .u64 q)) (cs' := (iv .u64 q)) H 0 24 (.agg (iv .u64 q).toArray) 16 (by kernel_rfl) rfl rfl (by first | (simp only [iv_length, List.length_set, List.length_replicate, *]; done) | (simp [iv_length, *]; done) | (simp [Value.cells, iv_length, *]; done) | omega | (simp [Value.cells, iv_length] <;> omega)) (by have h := (iv_length .u64 (List.replicate 16 0)).trans List.length_replicate; omega) (by exact iv_flat _ _) (by first | rfl | exact blit_all _ _ (by first | (simp only [iv_length, List.length_set, List.length_replicate, *]; done) | (simp [iv_length, *]; done) | (simp [Value.cells, iv_length, *]; done) | omega | (simp [Value.cells, iv_length] <;> omega)) | (simp [blit, List.drop_append, List.take_append, iv_length, *]; done)) (fun w41 H => ?_)
      dsimp only [List.set] at H
      refine wc_run (T' := [(4, .pointer (some ⟨b3, 0, none⟩)), (5, .int .i64 (↑l.length : Int)), (6, .int .i64 0)]) (L2 := (rng 6 0)) 2 [4, 5, 6] (by kernel_rfl) ?_
      refine wc_nil rfl ?_
      refine n_sq ?_
      refine wn_ret (by kernel_rfl) ?_
      refine ret3 _ (Or.inr rfl) Try.results16 ⟨_, _, rfl, Ld.entW H 0 (n := 16) rfl (by kernel_rfl) (by first | (simp only [iv_length, List.length_set, List.length_replicate, *]; done) | (simp [iv_length, *]; done) | (simp [Value.cells, iv_length, *]; done) | omega | (simp [Value.cells, iv_length] <;> omega))⟩ rfl rfl ?_
      have he42 : (allF p l).1 = q := by
        obtain ⟨h1, h2, h3, h4, h5⟩ := hi
        have he : i.toNat = l.length := by omega
        rw [he, List.drop_eq_nil_of_le (by omega)] at h5
        rw [← h5]; first | rfl | (simp only [allP]; omega)
      have he43 : (allF p l).2.1 = (↑l.length : Int) := by
        obtain ⟨h1, h2, h3, h4, h5⟩ := hi
        have he : i.toNat = l.length := by omega
        rw [he, List.drop_eq_nil_of_le (by omega)] at h5
        rw [← h5]; first | rfl | (simp only [allP]; omega)
      have he44 : (allF p l).2.2 = (0 : Int) := by
        obtain ⟨h1, h2, h3, h4, h5⟩ := hi
        have he : i.toNat = l.length := by omega
        rw [he, List.drop_eq_nil_of_le (by omega)] at h5
        rw [← h5]; first | rfl | (simp only [allP]; omega)
      exact ⟨by rw [he42, he43, he44], H.nil, by exact (allF_ok hp hb).1, by exact (allF_ok hp hb).2⟩

noncomputable def cd_proctorlaw19_anchored : Code := (Try.f21.body).getD .skip
theorem proctorlaw19_anchored (w : World)   :
    Calls Try.prog 21 #[] w (fun e w' => e = .returned (.bool true) ∧ Hp [] w w' []) := by
  refine enter (args := []) (c := cd_proctorlaw19_anchored) (N := 32) Try.func21 (by kernel_rfl) (by kernel_rfl) (by simp) ?_
  have H := Hp.start w
  refine wn_seq (by kernel_rfl) ?_
  refine wn_reg 1 (by kernel_rfl) ?_
  refine wc_run (T' := []) (L2 := (rng 1 0)) 1 [] (by kernel_rfl) ?_
  refine wc_nil rfl ?_
  refine n_sq ?_
  refine wn_seq (by kernel_rfl) ?_
  refine wn_reg 9 (by kernel_rfl) ?_
  refine wc_run (T' := [(6, .agg #[.int .u64 5, .int .u64 0, .int .u64 0, .int .u64 0, .int .u64 0, .int .u64 0, .int .u64 0, .int .u64 0, .int .u64 0, .int .u64 0, .int .u64 0, .int .u64 0, .int .u64 0, .int .u64 0, .int .u64 0, .int .u64 0]), (7, .agg #[.int .i64 0, .int .i64 3, .int .u64 2])]) (L2 := (rng 2 7)) 2 [6, 7] (by kernel_rfl) ?_
  refine wc_call (some 8) (by kernel_rfl) (ledger_Pay w ([5, 0, 0, 0, 0, 0, 0, 0, 0, 0, 0, 0, 0, 0, 0, 0]) (0 : Int) (3 : Int) (2 : Int) (by rfl) (B64_of (by decide))) ?_
  rintro _ w1 ⟨rfl, H1, hf2, hf3⟩
  refine ⟨_, rfl, fun _ => H1.keep, ?_⟩
  replace H := H.call H1
  simp only [List.nil_append] at H
  rw [show payP ([5, 0, 0, 0, 0, 0, 0, 0, 0, 0, 0, 0, 0, 0, 0, 0]) (0 : Int) (3 : Int) (2 : Int) = [3, 0, 0, 2, 0, 0, 0, 0, 0, 0, 0, 0, 0, 0, 0, 0] from by decide]
  rw [show payE ([5, 0, 0, 0, 0, 0, 0, 0, 0, 0, 0, 0, 0, 0, 0, 0]) (0 : Int) (3 : Int) (2 : Int) = (0 : Int) from by decide]
  refine wc_run (T' := [(9, .agg (iv .u64 ([3, 0, 0, 2, 0, 0, 0, 0, 0, 0, 0, 0, 0, 0, 0, 0])).toArray), (10, .int .i64 0)]) (L2 := (rng 6 3)) 3 [9, 10] (by kernel_rfl) ?_
  refine wc_new H (some 1) (row (iv .u64 (List.replicate 16 0)) 24) (fun r => .pointer (some ⟨r, 0, none⟩)) (by kernel_rfl) (fun b4 w5 H => ?_)
  refine wc_st (b := b4) (off := 0) (Tb := 24) (vs := (iv .u64 ([3, 0, 0, 2, 0, 0, 0, 0, 0, 0, 0, 0, 0, 0, 0, 0]))) (cs' := (iv .u64 ([3, 0, 0, 2, 0, 0, 0, 0, 0, 0, 0, 0, 0, 0, 0, 0]))) H 0 24 (.agg (iv .u64 ([3, 0, 0, 2, 0, 0, 0, 0, 0, 0, 0, 0, 0, 0, 0, 0])).toArray) 16 (by kernel_rfl) rfl rfl (by first | (simp only [iv_length, List.length_set, List.length_replicate, *]; done) | (simp [iv_length, *]; done) | (simp [Value.cells, iv_length, *]; done) | omega | (simp [Value.cells, iv_length] <;> omega)) (by have h := (iv_length .u64 (List.replicate 16 0)).trans List.length_replicate; omega) (by exact iv_flat _ _) (by first | rfl | exact blit_all _ _ (by first | (simp only [iv_length, List.length_set, List.length_replicate, *]; done) | (simp [iv_length, *]; done) | (simp [Value.cells, iv_length, *]; done) | omega | (simp [Value.cells, iv_length] <;> omega)) | (simp [blit, List.drop_append, List.take_append, iv_length, *]; done)) (fun w6 H => ?_)
  dsimp only [List.set] at H
  refine wc_run (T' := [(1, .pointer (some ⟨b4, 0, none⟩)), (2, .int .i64 0)]) (L2 := (rng 9 0)) 1 [1, 2] (by kernel_rfl) ?_
  refine wc_nil rfl ?_
  refine n_sq ?_
  refine wn_seq (by kernel_rfl) ?_
  refine wn_reg 9 (by kernel_rfl) ?_
  refine wc_ld (b := b4) (off := 0) (some 12) 24 (.agg (iv .u64 ([3, 0, 0, 2, 0, 0, 0, 0, 0, 0, 0, 0, 0, 0, 0, 0])).toArray) (by kernel_rfl) (Ld.entW H 0 (n := 16) rfl (by kernel_rfl) (by first | (simp only [iv_length, List.length_set, List.length_replicate, *]; done) | (simp [iv_length, *]; done) | (simp [Value.cells, iv_length, *]; done) | omega | (simp [Value.cells, iv_length] <;> omega))) ?_
  refine wc_run (T' := [(1, .pointer (some ⟨b4, 0, none⟩)), (2, .int .i64 0), (12, .agg (iv .u64 ([3, 0, 0, 2, 0, 0, 0, 0, 0, 0, 0, 0, 0, 0, 0, 0])).toArray), (13, .agg #[.int .i64 0, .int .i64 3, .int .u64 6])]) (L2 := (rng 2 7)) 1 [1, 2, 12, 13] (by kernel_rfl) ?_
  refine wc_call (some 14) (by kernel_rfl) (ledger_Pay w6 ([3, 0, 0, 2, 0, 0, 0, 0, 0, 0, 0, 0, 0, 0, 0, 0]) (0 : Int) (3 : Int) (6 : Int) (by rfl) (B64_of (by decide))) ?_
  rintro _ w7 ⟨rfl, H1, hf8, hf9⟩
  refine ⟨_, rfl, fun _ => H1.keep, ?_⟩
  replace H := H.call H1
  simp only [List.nil_append] at H
  rw [show payP ([3, 0, 0, 2, 0, 0, 0, 0, 0, 0, 0, 0, 0, 0, 0, 0]) (0 : Int) (3 : Int) (6 : Int) = (List.replicate 16 0) from by decide]
  rw [show payE ([3, 0, 0, 2, 0, 0, 0, 0, 0, 0, 0, 0, 0, 0, 0, 0]) (0 : Int) (3 : Int) (6 : Int) = (190 : Int) from by decide]
  refine wc_run (T' := [(1, .pointer (some ⟨b4, 0, none⟩)), (2, .int .i64 0), (15, .agg (iv .u64 (List.replicate 16 0)).toArray), (16, .int .i64 190)]) (L2 := (rng 6 3)) 3 [1, 2, 15, 16] (by kernel_rfl) ?_
  refine wc_new H (some 3) (row (iv .u64 (List.replicate 16 0)) 24) (fun r => .pointer (some ⟨r, 0, none⟩)) (by kernel_rfl) (fun b10 w11 H => ?_)
  refine wc_st (b := b10) (off := 0) (Tb := 24) (vs := (iv .u64 (List.replicate 16 0))) (cs' := (iv .u64 (List.replicate 16 0))) H 0 24 (.agg (iv .u64 (List.replicate 16 0)).toArray) 16 (by kernel_rfl) rfl rfl (by exact (iv_length .u64 (List.replicate 16 0)).trans List.length_replicate) (by have h := (iv_length .u64 (List.replicate 16 0)).trans List.length_replicate; omega) (by exact iv_flat _ _) (by exact blit_all _ _ (((iv_length .u64 (List.replicate 16 0)).trans List.length_replicate).trans ((iv_length .u64 (List.replicate 16 0)).trans List.length_replicate).symm)) (fun w12 H => ?_)
  dsimp only [List.set] at H
  refine wc_run (T' := [(1, .pointer (some ⟨b4, 0, none⟩)), (2, .int .i64 0), (4, .int .i64 190)]) (L2 := (rng 9 0)) 1 [1, 2, 4] (by kernel_rfl) ?_
  refine wc_nil rfl ?_
  refine n_sq ?_
  refine wn_seq (by kernel_rfl) ?_
  refine wn_reg 16 (by kernel_rfl) ?_
  refine wc_run (T' := [(1, .pointer (some ⟨b4, 0, none⟩)), (23, .bool true)]) (L2 := (rng 7 9)) 7 [1, 23] (by kernel_rfl) ?_
  refine wc_ld (b := b4) (off := 0) (some 24) 24 (.agg (iv .u64 ([3, 0, 0, 2, 0, 0, 0, 0, 0, 0, 0, 0, 0, 0, 0, 0])).toArray) (by kernel_rfl) (Ld.entW H 1 (n := 16) rfl (by kernel_rfl) (by first | (simp only [iv_length, List.length_set, List.length_replicate, *]; done) | (simp [iv_length, *]; done) | (simp [Value.cells, iv_length, *]; done) | omega | (simp [Value.cells, iv_length] <;> omega))) ?_
  refine wc_run (T' := [(23, .bool true), (24, .agg (iv .u64 ([3, 0, 0, 2, 0, 0, 0, 0, 0, 0, 0, 0, 0, 0, 0, 0])).toArray), (25, .agg #[.int .u64 3, .int .u64 0, .int .u64 0, .int .u64 2, .int .u64 0, .int .u64 0, .int .u64 0, .int .u64 0, .int .u64 0, .int .u64 0, .int .u64 0, .int .u64 0, .int .u64 0, .int .u64 0, .int .u64 0, .int .u64 0])]) (L2 := (rng 9 7)) 1 [23, 24, 25] (by kernel_rfl) ?_
  refine wc_eqA (c := decide ([3, 0, 0, 2, 0, 0, 0, 0, 0, 0, 0, 0, 0, 0, 0, 0] = [3, 0, 0, 2, 0, 0, 0, 0, 0, 0, 0, 0, 0, 0, 0, 0])) 2 (some 26) 24 true (iv .u64 ([3, 0, 0, 2, 0, 0, 0, 0, 0, 0, 0, 0, 0, 0, 0, 0])) (iv .u64 ([3, 0, 0, 2, 0, 0, 0, 0, 0, 0, 0, 0, 0, 0, 0, 0])) (by kernel_rfl) (EqV.arrC (k := .u64) (n := 16) (by kernel_rfl) ([3, 0, 0, 2, 0, 0, 0, 0, 0, 0, 0, 0, 0, 0, 0, 0]) ([3, 0, 0, 2, 0, 0, 0, 0, 0, 0, 0, 0, 0, 0, 0, 0]) (by rfl) (by rfl)) ?_
  refine wc_run (T' := [(28, .bool (decide ([3, 0, 0, 2, 0, 0, 0, 0, 0, 0, 0, 0, 0, 0, 0, 0] = [3, 0, 0, 2, 0, 0, 0, 0, 0, 0, 0, 0, 0, 0, 0, 0])))]) (L2 := (rng 12 4)) 2 [28] (by kernel_rfl) ?_
  by_cases hg13 : [3, 0, 0, 2, 0, 0, 0, 0, 0, 0, 0, 0, 0, 0, 0, 0] = [3, 0, 0, 2, 0, 0, 0, 0, 0, 0, 0, 0, 0, 0, 0, 0]
  · rw [decide_eq_true hg13]
    refine wc_run (T' := [(0, .bool true)]) (L2 := (rng 16 0)) 4 [0] (by kernel_rfl) ?_
    refine wc_nil rfl ?_
    refine n_sq ?_
    refine wn_ret (by kernel_rfl) ?_
    refine ret1 _ (Or.inr rfl) Try.results21 rfl ?_
    exact ⟨rfl, H.nil⟩
  · rw [decide_eq_false hg13]
    exact absurd rfl hg13

noncomputable def cd_proctorlaw19_LedgerPays : Code := (Try.f3.body).getD .skip
theorem proctorlaw19_LedgerPays (w : World) (p : List Int) (l : List Mv) (A : Option Addr) (c : Nat) (hp : p.length = 16) (hb : B64 p) (hl : Rd w A (mvC l)) (hn : l.length ≤ 140737488351232) :
    Calls Try.prog 3 #[.agg (iv .u64 p).toArray, .slice A l.length c] w (fun e w' => e = .returned (.bool true) ∧ Hp [] w w' []) := by
  refine enter (args := [_, _]) (c := cd_proctorlaw19_LedgerPays) (N := 107) Try.func3 (by kernel_rfl) (by kernel_rfl) (by simp) ?_
  have H := Hp.start w
  refine wn_seq (by kernel_rfl) ?_
  refine wn_reg 2 (by kernel_rfl) ?_
  refine wc_new H (some 2) (row (iv .u64 p) 24) (fun r => .pointer (some ⟨r, 0, none⟩)) (by kernel_rfl) (fun b1 w2 H => ?_)
  refine wc_run (T' := [(1, .slice A l.length c), (2, .pointer (some ⟨b1, 0, none⟩))]) (L2 := (rng 2 0)) 1 [1, 2] (by kernel_rfl) ?_
  refine wc_nil rfl ?_
  refine n_sq ?_
  refine wn_seq (by kernel_rfl) ?_
  refine wn_reg 7 (by kernel_rfl) ?_
  refine wc_ld (b := b1) (off := 0) (some 21) 24 (.agg (iv .u64 p).toArray) (by kernel_rfl) (Ld.entW H 0 (n := 16) rfl (by kernel_rfl) (by exact (iv_length .u64 p).trans hp)) ?_
  refine wc_call (some 22) (by kernel_rfl) (ledger_Total w2 p (by first | assumption | omega | (simp_all; done)) (by first | assumption | omega | (simp_all; done))) ?_
  rintro _ w3 ⟨rfl, H1⟩
  refine ⟨_, rfl, fun _ => H1.keep, ?_⟩
  replace H := H.call H1
  simp only [List.nil_append] at H
  refine wc_run (T' := [(1, .slice A l.length c), (2, .pointer (some ⟨b1, 0, none⟩)), (5, .int .u64 (totV (tot p 0))), (6, .int .i64 (totE (tot p 0)))]) (L2 := (rng 7 0)) 5 [1, 2, 5, 6] (by kernel_rfl) ?_
  refine wc_nil rfl ?_
  refine n_sq ?_
  refine wn_seq (by kernel_rfl) ?_
  refine wn_reg 7 (by kernel_rfl) ?_
  refine wc_ld (b := b1) (off := 0) (some 26) 24 (.agg (iv .u64 p).toArray) (by kernel_rfl) (Ld.entW H 0 (n := 16) rfl (by kernel_rfl) (by exact (iv_length .u64 p).trans hp)) ?_
  refine wc_call (some 27) (by kernel_rfl) (proctorref19_Total w3 p (by first | assumption | omega | (simp_all; done)) (by first | assumption | omega | (simp_all; done))) ?_
  rintro _ w4 ⟨rfl, H1⟩
  refine ⟨_, rfl, fun _ => H1.keep, ?_⟩
  replace H := H.call H1
  simp only [List.nil_append] at H
  refine wc_run (T' := [(1, .slice A l.length c), (2, .pointer (some ⟨b1, 0, none⟩)), (5, .int .u64 (totV (tot p 0))), (6, .int .i64 (totE (tot p 0))), (7, .int .u64 (totV (tot p 0))), (8, .int .i64 (totE (tot p 0)))]) (L2 := (rng 7 0)) 5 [1, 2, 5, 6, 7, 8] (by kernel_rfl) ?_
  refine wc_nil rfl ?_
  refine n_sq ?_
  refine wn_seq (by kernel_rfl) ?_
  refine wn_reg 11 (by kernel_rfl) ?_
  refine wc_ld (b := b1) (off := 0) (some 31) 24 (.agg (iv .u64 p).toArray) (by kernel_rfl) (Ld.entW H 0 (n := 16) rfl (by kernel_rfl) (by exact (iv_length .u64 p).trans hp)) ?_
  refine wc_run (T' := [(1, .slice A l.length c), (2, .pointer (some ⟨b1, 0, none⟩)), (5, .int .u64 (totV (tot p 0))), (6, .int .i64 (totE (tot p 0))), (7, .int .u64 (totV (tot p 0))), (8, .int .i64 (totE (tot p 0))), (31, .agg (iv .u64 p).toArray), (32, .slice A l.length c)]) (L2 := (rng 2 9)) 1 [1, 2, 5, 6, 7, 8, 31, 32] (by kernel_rfl) ?_
  refine wc_call (some 33) (by kernel_rfl) (ledger_All w4 p l A c (by first | assumption | omega | (simp_all; done)) (by first | assumption | omega | (simp_all; done)) (hl.keep H.keep) (by first | assumption | omega | (simp_all; done))) ?_
  rintro _ w5 ⟨rfl, H1, hf6, hf7⟩
  refine ⟨_, rfl, fun _ => H1.keep, ?_⟩
  replace H := H.call H1
  simp only [List.nil_append] at H
  refine wc_run (T' := [(1, .slice A l.length c), (2, .pointer (some ⟨b1, 0, none⟩)), (5, .int .u64 (totV (tot p 0))), (6, .int .i64 (totE (tot p 0))), (7, .int .u64 (totV (tot p 0))), (8, .int .i64 (totE (tot p 0))), (34, .agg (iv .u64 ((allF p l).1)).toArray), (35, .int .i64 ((allF p l).2.1)), (36, .int .i64 ((allF p l).2.2))]) (L2 := (rng 7 4)) 4 [1, 2, 5, 6, 7, 8, 34, 35, 36] (by kernel_rfl) ?_
  refine wc_new H (some 9) (row (iv .u64 (List.replicate 16 0)) 24) (fun r => .pointer (some ⟨r, 0, none⟩)) (by kernel_rfl) (fun b8 w9 H => ?_)
  refine wc_st (b := b8) (off := 0) (Tb := 24) (vs := (iv .u64 ((allF p l).1))) (cs' := (iv .u64 ((allF p l).1))) H 0 24 (.agg (iv .u64 ((allF p l).1)).toArray) 16 (by kernel_rfl) rfl rfl (by exact (iv_length .u64 ((allF p l).1)).trans hf6) (by have h := (iv_length .u64 (List.replicate 16 0)).trans List.length_replicate; omega) (by exact iv_flat _ _) (by exact blit_all _ _ (((iv_length .u64 ((allF p l).1)).trans hf6).trans ((iv_length .u64 (List.replicate 16 0)).trans List.length_replicate).symm)) (fun w10 H => ?_)
  dsimp only [List.set] at H
  refine wc_run (T' := [(1, .slice A l.length c), (2, .pointer (some ⟨b1, 0, none⟩)), (5, .int .u64 (totV (tot p 0))), (6, .int .i64 (totE (tot p 0))), (7, .int .u64 (totV (tot p 0))), (8, .int .i64 (totE (tot p 0))), (9, .pointer (some ⟨b8, 0, none⟩)), (10, .int .i64 ((allF p l).2.1)), (11, .int .i64 ((allF p l).2.2))]) (L2 := (rng 11 0)) 2 [1, 2, 5, 6, 7, 8, 9, 10, 11] (by kernel_rfl) ?_
  refine wc_nil rfl ?_
  refine n_sq ?_
  refine wn_seq (by kernel_rfl) ?_
  refine wn_reg 11 (by kernel_rfl) ?_
  refine wc_ld (b := b1) (off := 0) (some 38) 24 (.agg (iv .u64 p).toArray) (by kernel_rfl) (Ld.entW H 1 (n := 16) rfl (by kernel_rfl) (by exact (iv_length .u64 p).trans hp)) ?_
  refine wc_run (T' := [(1, .slice A l.length c), (2, .pointer (some ⟨b1, 0, none⟩)), (5, .int .u64 (totV (tot p 0))), (6, .int .i64 (totE (tot p 0))), (7, .int .u64 (totV (tot p 0))), (8, .int .i64 (totE (tot p 0))), (9, .pointer (some ⟨b8, 0, none⟩)), (10, .int .i64 ((allF p l).2.1)), (11, .int .i64 ((allF p l).2.2)), (38, .agg (iv .u64 p).toArray), (39, .slice A l.length c)]) (L2 := (rng 2 9)) 1 [1, 2, 5, 6, 7, 8, 9, 10, 11, 38, 39] (by kernel_rfl) ?_
  refine wc_call (some 40) (by kernel_rfl) (proctorref19_All w10 p l A c (by first | assumption | omega | (simp_all; done)) (by first | assumption | omega | (simp_all; done)) (hl.keep H.keep) (by first | assumption | omega | (simp_all; done))) ?_
  rintro _ w11 ⟨rfl, H1, hf12, hf13⟩
  refine ⟨_, rfl, fun _ => H1.keep, ?_⟩
  replace H := H.call H1
  simp only [List.nil_append] at H
  refine wc_run (T' := [(1, .slice A l.length c), (2, .pointer (some ⟨b1, 0, none⟩)), (5, .int .u64 (totV (tot p 0))), (6, .int .i64 (totE (tot p 0))), (7, .int .u64 (totV (tot p 0))), (8, .int .i64 (totE (tot p 0))), (9, .pointer (some ⟨b8, 0, none⟩)), (10, .int .i64 ((allF p l).2.1)), (11, .int .i64 ((allF p l).2.2)), (41, .agg (iv .u64 ((allF p l).1)).toArray), (42, .int .i64 ((allF p l).2.1)), (43, .int .i64 ((allF p l).2.2))]) (L2 := (rng 7 4)) 4 [1, 2, 5, 6, 7, 8, 9, 10, 11, 41, 42, 43] (by kernel_rfl) ?_
  refine wc_new H (some 12) (row (iv .u64 (List.replicate 16 0)) 24) (fun r => .pointer (some ⟨r, 0, none⟩)) (by kernel_rfl) (fun b14 w15 H => ?_)
  refine wc_st (b := b14) (off := 0) (Tb := 24) (vs := (iv .u64 ((allF p l).1))) (cs' := (iv .u64 ((allF p l).1))) H 0 24 (.agg (iv .u64 ((allF p l).1)).toArray) 16 (by kernel_rfl) rfl rfl (by exact (iv_length .u64 ((allF p l).1)).trans hf12) (by have h := (iv_length .u64 (List.replicate 16 0)).trans List.length_replicate; omega) (by exact iv_flat _ _) (by exact blit_all _ _ (((iv_length .u64 ((allF p l).1)).trans hf12).trans ((iv_length .u64 (List.replicate 16 0)).trans List.length_replicate).symm)) (fun w16 H => ?_)
  dsimp only [List.set] at H
  refine wc_run (T' := [(1, .slice A l.length c), (2, .pointer (some ⟨b1, 0, none⟩)), (5, .int .u64 (totV (tot p 0))), (6, .int .i64 (totE (tot p 0))), (7, .int .u64 (totV (tot p 0))), (8, .int .i64 (totE (tot p 0))), (9, .pointer (some ⟨b8, 0, none⟩)), (10, .int .i64 ((allF p l).2.1)), (11, .int .i64 ((allF p l).2.2)), (12, .pointer (some ⟨b14, 0, none⟩)), (13, .int .i64 ((allF p l).2.1)), (14, .int .i64 ((allF p l).2.2))]) (L2 := (rng 11 0)) 2 [1, 2, 5, 6, 7, 8, 9, 10, 11, 12, 13, 14] (by kernel_rfl) ?_
  refine wc_nil rfl ?_
  refine n_sq ?_
  refine wn_seq (by kernel_rfl) ?_
  refine wn_seq (by kernel_rfl) ?_
  refine wn_regD [] (ol [0, 1, 2, 3, 4, 5, 6, 7, 8, 9, 10, 11, 12, 13, 14, 15, 16, 17, 18, 19, 20, 21, 22, 23, 24, 26, 25, 27, 28, 29]) (by kernel_rfl) H (fun w17 H => ?_)
  refine wc_run (T' := [(1, .slice A l.length c), (2, .pointer (some ⟨b1, 0, none⟩)), (6, .int .i64 (totE (tot p 0))), (8, .int .i64 (totE (tot p 0))), (9, .pointer (some ⟨b8, 0, none⟩)), (10, .int .i64 ((allF p l).2.1)), (11, .int .i64 ((allF p l).2.2)), (12, .pointer (some ⟨b14, 0, none⟩)), (13, .int .i64 ((allF p l).2.1)), (14, .int .i64 ((allF p l).2.2)), (47, .bool ((totV (tot p 0)) != (totV (tot p 0))))]) (L2 := (ol [4, 5, 6, 7, 8, 9, 10, 11, 12, 13, 14, 15, 16, 17, 18, 19, 20, 21, 22, 23, 24, 26, 25, 27, 28, 29])) 4 [1, 2, 6, 8, 9, 10, 11, 12, 13, 14, 47] (by kernel_rfl) ?_
  rcases Bool.eq_false_or_eq_true ((totV (tot p 0)) != (totV (tot p 0))) with hg18 | hg18
  · rw [hg18]
    have hg18 := bneT hg18
    exact absurd rfl hg18
  · rw [hg18]
    have hg18 := bneF hg18
    refine wc_run (T' := [(1, .slice A l.length c), (2, .pointer (some ⟨b1, 0, none⟩)), (9, .pointer (some ⟨b8, 0, none⟩)), (10, .int .i64 ((allF p l).2.1)), (11, .int .i64 ((allF p l).2.2)), (12, .pointer (some ⟨b14, 0, none⟩)), (13, .int .i64 ((allF p l).2.1)), (14, .int .i64 ((allF p l).2.2)), (52, .bool ((totE (tot p 0)) != (totE (tot p 0))))]) (L2 := (ol [9, 10, 11, 12, 13, 14, 15, 16, 17, 18, 19, 20, 21, 22, 23, 24, 26, 25, 27, 28, 29])) 5 [1, 2, 9, 10, 11, 12, 13, 14, 52] (by kernel_rfl) ?_
    rcases Bool.eq_false_or_eq_true ((totE (tot p 0)) != (totE (tot p 0))) with hg19 | hg19
    · rw [hg19]
      have hg19 := bneT hg19
      exact absurd rfl hg19
    · rw [hg19]
      have hg19 := bneF hg19
      refine wc_ld (b := b8) (off := 0) (some 53) 24 (.agg (iv .u64 ((allF p l).1)).toArray) (by kernel_rfl) (Ld.entW H 1 (n := 16) rfl (by kernel_rfl) (by exact (iv_length .u64 ((allF p l).1)).trans hf12)) ?_
      refine wc_ld (b := b14) (off := 0) (some 54) 24 (.agg (iv .u64 ((allF p l).1)).toArray) (by kernel_rfl) (Ld.entW H 0 (n := 16) rfl (by kernel_rfl) (by exact (iv_length .u64 ((allF p l).1)).trans hf12)) ?_
      refine wc_eqA (c := decide (((allF p l).1) = ((allF p l).1))) 2 (some 55) 24 false (iv .u64 ((allF p l).1)) (iv .u64 ((allF p l).1)) (by kernel_rfl) (EqV.arrC (k := .u64) (n := 16) (by kernel_rfl) ((allF p l).1) ((allF p l).1) (by exact hf12) (by exact hf12)) ?_
      refine wc_run (T' := [(1, .slice A l.length c), (2, .pointer (some ⟨b1, 0, none⟩)), (10, .int .i64 ((allF p l).2.1)), (11, .int .i64 ((allF p l).2.2)), (13, .int .i64 ((allF p l).2.1)), (14, .int .i64 ((allF p l).2.2)), (57, .bool (!decide (((allF p l).1) = ((allF p l).1))))]) (L2 := (ol [14, 15, 16, 17, 18, 19, 20, 21, 22, 23, 24, 26, 25, 27, 28, 29])) 2 [1, 2, 10, 11, 13, 14, 57] (by kernel_rfl) ?_
      rcases Bool.eq_false_or_eq_true (!decide (((allF p l).1) = ((allF p l).1))) with hg20 | hg20
      · rw [hg20]
        have hg20 := ndT hg20
        exact absurd rfl hg20
      · rw [hg20]
        have hg20 := ndF hg20
        refine wc_run (T' := [(1, .slice A l.length c), (2, .pointer (some ⟨b1, 0, none⟩)), (11, .int .i64 ((allF p l).2.2)), (14, .int .i64 ((allF p l).2.2)), (62, .bool (((allF p l).2.1) != ((allF p l).2.1)))]) (L2 := (ol [19, 20, 21, 22, 23, 24, 26, 25, 27, 28, 29])) 5 [1, 2, 11, 14, 62] (by kernel_rfl) ?_
        rcases Bool.eq_false_or_eq_true (((allF p l).2.1) != ((allF p l).2.1)) with hg21 | hg21
        · rw [hg21]
          have hg21 := bneT hg21
          exact absurd rfl hg21
        · rw [hg21]
          have hg21 := bneF hg21
          refine wc_run (T' := [(1, .slice A l.length c), (2, .pointer (some ⟨b1, 0, none⟩)), (67, .bool (((allF p l).2.2) != ((allF p l).2.2)))]) (L2 := (ol [24, 26, 25, 27, 28, 29])) 5 [1, 2, 67] (by kernel_rfl) ?_
          rcases Bool.eq_false_or_eq_true (((allF p l).2.2) != ((allF p l).2.2)) with hg22 | hg22
          · rw [hg22]
            have hg22 := bneT hg22
            exact absurd rfl hg22
          · rw [hg22]
            have hg22 := bneF hg22
            refine wc_ld (b := b1) (off := 0) (some 68) 24 (.agg (iv .u64 p).toArray) (by kernel_rfl) (Ld.entW H 2 (n := 16) rfl (by kernel_rfl) (by exact (iv_length .u64 p).trans hp)) ?_
            refine wc_ld (b := b1) (off := 0) (some 70) 24 (.agg (iv .u64 p).toArray) (by kernel_rfl) (Ld.entW H 2 (n := 16) rfl (by kernel_rfl) (by exact (iv_length .u64 p).trans hp)) ?_
            refine wc_call (some 69) (by kernel_rfl) (ledger_May w17 p (by first | assumption | omega | (simp_all; done)) (by first | assumption | omega | (simp_all; done))) ?_
            rintro _ w23 ⟨rfl, H1⟩
            refine ⟨_, rfl, fun _ => H1.keep, ?_⟩
            replace H := H.call H1
            simp only [List.nil_append] at H
            refine wc_call (some 71) (by kernel_rfl) (proctorref19_May w23 p (by first | assumption | omega | (simp_all; done)) (by first | assumption | omega | (simp_all; done))) ?_
            rintro _ w24 ⟨rfl, H1⟩
            refine ⟨_, rfl, fun _ => H1.keep, ?_⟩
            replace H := H.call H1
            simp only [List.nil_append] at H
            refine wc_run (T' := [(1, .slice A l.length c), (2, .pointer (some ⟨b1, 0, none⟩)), (73, .bool (!((mayP p) == (mayP p))))]) (L2 := (ol [])) 2 [1, 2, 73] (by kernel_rfl) ?_
            refine wc_nil rfl ?_
            refine n_np ?_
            refine n_sq ?_
            refine wn_cond (.tmp 73) (!((mayP p) == (mayP p))) (by kernel_rfl) rfl (fun hc25 => ?_) (fun hc25 => ?_)
            · have hc25 := notT hc25
              have hc25 := ne_of_beq_false hc25
              exact absurd rfl hc25
            · have hc25 := notF hc25
              have hc25 := eq_of_beq hc25
              refine wn_skip (by kernel_rfl) ?_
              refine n_sq ?_
              refine wn_seq (by kernel_rfl) ?_
              refine wn_seq (by kernel_rfl) ?_
              refine wn_reg 1 (by kernel_rfl) ?_
              refine wc_run (T' := [(1, .slice A l.length c), (2, .pointer (some ⟨b1, 0, none⟩)), (15, .int .i64 0)]) (L2 := (rng 1 0)) 1 [1, 2, 15] (by kernel_rfl) ?_
              refine wc_nil rfl ?_
              refine n_sq ?_
              refine wn_block 0 (by kernel_rfl) ?_
              refine wn_loop (fun (i : Int) => [(1, .slice A l.length c), (2, .pointer (some ⟨b1, 0, none⟩)), (15, .int .i64 i)]) (fun (i : Int) w' => Hp [] w w' [(b14, row (iv .u64 ((allF p l).1)) 24), (b8, row (iv .u64 ((allF p l).1)) 24), (b1, row (iv .u64 p) 24)] ∧ 0 ≤ i ∧ i ≤ l.length) (fun (i : Int) => (l.length - i).toNat) ((0 : Int)) [1, 2, 15] (by kernel_rfl) rfl ⟨H, by simp⟩ ?_
              rintro i w26 ⟨H, hi⟩
              try dsimp only at H hi
              refine wn_pick (T' := [(1, .slice A l.length c), (2, .pointer (some ⟨b1, 0, none⟩)), (15, .int .i64 i)]) [1, 2, 15] (by kernel_rfl) ?_
              refine wn_seq (by kernel_rfl) ?_
              refine wn_seq (by kernel_rfl) ?_
              refine wn_reg 4 (by kernel_rfl) ?_
              refine wc_run (T' := [(1, .slice A l.length c), (2, .pointer (some ⟨b1, 0, none⟩)), (15, .int .i64 i), (77, .bool (decide (i < (↑l.length : Int))))]) (L2 := (rng 4 0)) 4 [1, 2, 15, 77] (by kernel_rfl) ?_
              refine wc_nil rfl ?_
              refine n_sq ?_
              refine wn_cond (.tmp 77) (decide (i < (↑l.length : Int))) (by kernel_rfl) rfl (fun hc27 => ?_) (fun hc27 => ?_)
              · have hc27 := of_decide_eq_true hc27
                refine wn_skip (by kernel_rfl) ?_
                refine n_sq ?_
                refine wn_seq (by kernel_rfl) ?_
                refine wn_block 1 (by kernel_rfl) ?_
                refine wn_cut (fun (bc28 : Nat) => [(1, .slice A l.length c), (2, .pointer (some ⟨b1, 0, none⟩)), (15, .int .i64 i), (16, .pointer (some ⟨bc28, 0, none⟩)), (17, .int .i64 (payE p ((l.getD i.toNat default).1) ((l.getD i.toNat default).2.1) ((l.getD i.toNat default).2.2)))]) (fun (bc28 : Nat) w' => Hp [] w w' [(bc28, row (iv .u64 (payP p ((l.getD i.toNat default).1) ((l.getD i.toNat default).2.1) ((l.getD i.toNat default).2.2))) 24), (b14, row (iv .u64 ((allF p l).1)) 24), (b8, row (iv .u64 ((allF p l).1)) 24), (b1, row (iv .u64 p) 24)] ∧ (payP p ((l.getD i.toNat default).1) ((l.getD i.toNat default).2.1) ((l.getD i.toNat default).2.2)).length = 16 ∧ B64 (payP p ((l.getD i.toNat default).1) ((l.getD i.toNat default).2.1) ((l.getD i.toNat default).2.2))) (by kernel_rfl) ?_ ?_
                · refine wn_regD [] (ob [0, 1, 2, 3, 4] (ol [5, 6, 7, 8, 9, 10, 11]) (ol [9, 5, 6, 7, 8, 10, 11])) (by kernel_rfl) H (fun w29 H => ?_)
                  refine wc_ld (b := b1) (off := 0) (some 81) 24 (.agg (iv .u64 p).toArray) (by kernel_rfl) (Ld.entW H 2 (n := 16) rfl (by kernel_rfl) (by exact (iv_length .u64 p).trans hp)) ?_
                  refine wc_run (T' := [(1, .slice A l.length c), (2, .pointer (some ⟨b1, 0, none⟩)), (15, .int .i64 i), (81, .agg (iv .u64 p).toArray), (82, .slice A l.length c), (83, .int .i64 i)]) (L2 := (ob [3, 4] (ol [5, 6, 7, 8, 9, 10, 11]) (ol [9, 5, 6, 7, 8, 10, 11]))) 2 [1, 2, 15, 81, 82, 83] (by kernel_rfl) ?_
                  obtain ⟨b30, o31, hA32, hl33, hm34⟩ := Rd.at (hl.keep H.keep) (by intro hne; have := congrArg List.length hne; simp [mvC_length] at this; omega)
                  refine wc_ix (P := Try.prog) (b := b30) (off := o31) (o' := o31 + i.toNat * 3) (some 84) A l.length 3 i (by kernel_rfl) hA32 (by omega) (by omega) (by omega) ?_
                  refine wc_ld (b := b30) (off := o31 + i.toNat * 3) (some 85) 39 (.agg #[.int .i64 ((l.getD i.toNat default).1), .int .i64 ((l.getD i.toNat default).2.1), .int .u64 ((l.getD i.toNat default).2.2)]) (by kernel_rfl) (hm34 39 3 (i.toNat * 3) _ (by kernel_rfl) (by kernel_rfl) (by simp [mvC_length]; omega) (by exact mvC_at (by omega))) ?_
                  refine wc_br rfl ?_ ?_
                  · refine wc_call (some 86) (by kernel_rfl) (ledger_Pay w29 p ((l.getD i.toNat default).1) ((l.getD i.toNat default).2.1) ((l.getD i.toNat default).2.2) (by first | assumption | omega | (simp_all; done)) (by first | assumption | omega | (simp_all; done))) ?_
                    rintro _ w35 ⟨rfl, H1, hf36, hf37⟩
                    refine ⟨_, rfl, fun _ => H1.keep, ?_⟩
                    replace H := H.call H1
                    simp only [List.nil_append] at H
                    refine wc_run (T' := [(1, .slice A l.length c), (2, .pointer (some ⟨b1, 0, none⟩)), (15, .int .i64 i), (87, .agg (iv .u64 (payP p ((l.getD i.toNat default).1) ((l.getD i.toNat default).2.1) ((l.getD i.toNat default).2.2))).toArray), (88, .int .i64 (payE p ((l.getD i.toNat default).1) ((l.getD i.toNat default).2.1) ((l.getD i.toNat default).2.2)))]) (L2 := (ol [9, 10, 11])) 3 [1, 2, 15, 87, 88] (by kernel_rfl) ?_
                    refine wc_new H (some 16) (row (iv .u64 (List.replicate 16 0)) 24) (fun r => .pointer (some ⟨r, 0, none⟩)) (by kernel_rfl) (fun b38 w39 H => ?_)
                    refine wc_st (b := b38) (off := 0) (Tb := 24) (vs := (iv .u64 (payP p ((l.getD i.toNat default).1) ((l.getD i.toNat default).2.1) ((l.getD i.toNat default).2.2)))) (cs' := (iv .u64 (payP p ((l.getD i.toNat default).1) ((l.getD i.toNat default).2.1) ((l.getD i.toNat default).2.2)))) H 0 24 (.agg (iv .u64 (payP p ((l.getD i.toNat default).1) ((l.getD i.toNat default).2.1) ((l.getD i.toNat default).2.2))).toArray) 16 (by kernel_rfl) rfl rfl (by exact (iv_length .u64 (payP p ((l.getD i.toNat default).1) ((l.getD i.toNat default).2.1) ((l.getD i.toNat default).2.2))).trans hf36) (by have h := (iv_length .u64 (List.replicate 16 0)).trans List.length_replicate; omega) (by exact iv_flat _ _) (by exact blit_all _ _ (((iv_length .u64 (payP p ((l.getD i.toNat default).1) ((l.getD i.toNat default).2.1) ((l.getD i.toNat default).2.2))).trans hf36).trans ((iv_length .u64 (List.replicate 16 0)).trans List.length_replicate).symm)) (fun w40 H => ?_)
                    dsimp only [List.set] at H
                    refine wc_run (T' := [(1, .slice A l.length c), (2, .pointer (some ⟨b1, 0, none⟩)), (15, .int .i64 i), (16, .pointer (some ⟨b38, 0, none⟩)), (17, .int .i64 (payE p ((l.getD i.toNat default).1) ((l.getD i.toNat default).2.1) ((l.getD i.toNat default).2.2)))]) (L2 := (ol [])) 1 [1, 2, 15, 16, 17] (by kernel_rfl) ?_
                    refine wc_nil rfl ?_
                    refine n_np ?_
                    exact cut_end (b38) [1, 2, 15, 16, 17] (by kernel_rfl) ⟨H, hf36, hf37⟩
                  · refine wc_new H (some 16) (row (iv .u64 (List.replicate 16 0)) 24) (fun r => .pointer (some ⟨r, 0, none⟩)) (by kernel_rfl) (fun b41 w42 H => ?_)
                    refine wc_call (some 86) (by kernel_rfl) (ledger_Pay w42 p ((l.getD i.toNat default).1) ((l.getD i.toNat default).2.1) ((l.getD i.toNat default).2.2) (by first | assumption | omega | (simp_all; done)) (by first | assumption | omega | (simp_all; done))) ?_
                    rintro _ w43 ⟨rfl, H1, hf44, hf45⟩
                    refine ⟨_, rfl, fun _ => H1.keep, ?_⟩
                    replace H := H.call H1
                    simp only [List.nil_append] at H
                    refine wc_run (T' := [(1, .slice A l.length c), (2, .pointer (some ⟨b1, 0, none⟩)), (15, .int .i64 i), (16, .pointer (some ⟨b41, 0, none⟩)), (87, .agg (iv .u64 (payP p ((l.getD i.toNat default).1) ((l.getD i.toNat default).2.1) ((l.getD i.toNat default).2.2))).toArray), (88, .int .i64 (payE p ((l.getD i.toNat default).1) ((l.getD i.toNat default).2.1) ((l.getD i.toNat default).2.2)))]) (L2 := (ol [10, 11])) 3 [1, 2, 15, 16, 87, 88] (by kernel_rfl) ?_
                    refine wc_st (b := b41) (off := 0) (Tb := 24) (vs := (iv .u64 (payP p ((l.getD i.toNat default).1) ((l.getD i.toNat default).2.1) ((l.getD i.toNat default).2.2)))) (cs' := (iv .u64 (payP p ((l.getD i.toNat default).1) ((l.getD i.toNat default).2.1) ((l.getD i.toNat default).2.2)))) H 0 24 (.agg (iv .u64 (payP p ((l.getD i.toNat default).1) ((l.getD i.toNat default).2.1) ((l.getD i.toNat default).2.2))).toArray) 16 (by kernel_rfl) rfl rfl (by exact (iv_length .u64 (payP p ((l.getD i.toNat default).1) ((l.getD i.toNat default).2.1) ((l.getD i.toNat default).2.2))).trans hf44) (by have h := (iv_length .u64 (List.replicate 16 0)).trans List.length_replicate; omega) (by exact iv_flat _ _) (by exact blit_all _ _ (((iv_length .u64 (payP p ((l.getD i.toNat default).1) ((l.getD i.toNat default).2.1) ((l.getD i.toNat default).2.2))).trans hf44).trans ((iv_length .u64 (List.replicate 16 0)).trans List.length_replicate).symm)) (fun w46 H => ?_)
                    dsimp only [List.set] at H
                    refine wc_run (T' := [(1, .slice A l.length c), (2, .pointer (some ⟨b1, 0, none⟩)), (15, .int .i64 i), (16, .pointer (some ⟨b41, 0, none⟩)), (17, .int .i64 (payE p ((l.getD i.toNat default).1) ((l.getD i.toNat default).2.1) ((l.getD i.toNat default).2.2)))]) (L2 := (ol [])) 1 [1, 2, 15, 16, 17] (by kernel_rfl) ?_
                    refine wc_nil rfl ?_
                    refine n_np ?_
                    exact cut_end (b41) [1, 2, 15, 16, 17] (by kernel_rfl) ⟨H, hf44, hf45⟩
                rintro bc28 w47 ⟨H, hf48, hf49⟩
                try dsimp only at H hf48 hf49
                refine wn_pick (T' := [(1, .slice A l.length c), (2, .pointer (some ⟨b1, 0, none⟩)), (15, .int .i64 i), (16, .pointer (some ⟨bc28, 0, none⟩)), (17, .int .i64 (payE p ((l.getD i.toNat default).1) ((l.getD i.toNat default).2.1) ((l.getD i.toNat default).2.2)))]) [1, 2, 15, 16, 17] (by kernel_rfl) ?_
                refine wn_cut (fun (bc50 : Nat) => [(1, .slice A l.length c), (2, .pointer (some ⟨b1, 0, none⟩)), (15, .int .i64 i), (16, .pointer (some ⟨bc28, 0, none⟩)), (17, .int .i64 (payE p ((l.getD i.toNat default).1) ((l.getD i.toNat default).2.1) ((l.getD i.toNat default).2.2))), (18, .pointer (some ⟨bc50, 0, none⟩)), (19, .int .i64 (payE p ((l.getD i.toNat default).1) ((l.getD i.toNat default).2.1) ((l.getD i.toNat default).2.2)))]) (fun (bc50 : Nat) w' => Hp [] w w' [(bc50, row (iv .u64 (payP p ((l.getD i.toNat default).1) ((l.getD i.toNat default).2.1) ((l.getD i.toNat default).2.2))) 24), (bc28, row (iv .u64 (payP p ((l.getD i.toNat default).1) ((l.getD i.toNat default).2.1) ((l.getD i.toNat default).2.2))) 24), (b14, row (iv .u64 ((allF p l).1)) 24), (b8, row (iv .u64 ((allF p l).1)) 24), (b1, row (iv .u64 p) 24)] ∧ (payP p ((l.getD i.toNat default).1) ((l.getD i.toNat default).2.1) ((l.getD i.toNat default).2.2)).length = 16 ∧ B64 (payP p ((l.getD i.toNat default).1) ((l.getD i.toNat default).2.1) ((l.getD i.toNat default).2.2))) (by kernel_rfl) ?_ ?_
                · refine wn_regD [] (ob [0, 1, 2, 3, 4] (ol [5, 6, 7, 8, 9, 10, 11]) (ol [9, 5, 6, 7, 8, 10, 11])) (by kernel_rfl) H (fun w51 H => ?_)
                  refine wc_ld (b := b1) (off := 0) (some 90) 24 (.agg (iv .u64 p).toArray) (by kernel_rfl) (Ld.entW H 3 (n := 16) rfl (by kernel_rfl) (by exact (iv_length .u64 p).trans hp)) ?_
                  refine wc_run (T' := [(1, .slice A l.length c), (2, .pointer (some ⟨b1, 0, none⟩)), (15, .int .i64 i), (16, .pointer (some ⟨bc28, 0, none⟩)), (17, .int .i64 (payE p ((l.getD i.toNat default).1) ((l.getD i.toNat default).2.1) ((l.getD i.toNat default).2.2))), (90, .agg (iv .u64 p).toArray), (91, .slice A l.length c), (92, .int .i64 i)]) (L2 := (ob [3, 4] (ol [5, 6, 7, 8, 9, 10, 11]) (ol [9, 5, 6, 7, 8, 10, 11]))) 2 [1, 2, 15, 16, 17, 90, 91, 92] (by kernel_rfl) ?_
                  obtain ⟨b52, o53, hA54, hl55, hm56⟩ := Rd.at (hl.keep H.keep) (by intro hne; have := congrArg List.length hne; simp [mvC_length] at this; omega)
                  refine wc_ix (P := Try.prog) (b := b52) (off := o53) (o' := o53 + i.toNat * 3) (some 93) A l.length 3 i (by kernel_rfl) hA54 (by omega) (by omega) (by omega) ?_
                  refine wc_ld (b := b52) (off := o53 + i.toNat * 3) (some 94) 39 (.agg #[.int .i64 ((l.getD i.toNat default).1), .int .i64 ((l.getD i.toNat default).2.1), .int .u64 ((l.getD i.toNat default).2.2)]) (by kernel_rfl) (hm56 39 3 (i.toNat * 3) _ (by kernel_rfl) (by kernel_rfl) (by simp [mvC_length]; omega) (by exact mvC_at (by omega))) ?_
                  refine wc_br rfl ?_ ?_
                  · refine wc_call (some 95) (by kernel_rfl) (proctorref19_Pay w51 p ((l.getD i.toNat default).1) ((l.getD i.toNat default).2.1) ((l.getD i.toNat default).2.2) (by first | assumption | omega | (simp_all; done)) (by first | assumption | omega | (simp_all; done))) ?_
                    rintro _ w57 ⟨rfl, H1, hf58, hf59⟩
                    refine ⟨_, rfl, fun _ => H1.keep, ?_⟩
                    replace H := H.call H1
                    simp only [List.nil_append] at H
                    refine wc_run (T' := [(1, .slice A l.length c), (2, .pointer (some ⟨b1, 0, none⟩)), (15, .int .i64 i), (16, .pointer (some ⟨bc28, 0, none⟩)), (17, .int .i64 (payE p ((l.getD i.toNat default).1) ((l.getD i.toNat default).2.1) ((l.getD i.toNat default).2.2))), (96, .agg (iv .u64 (payP p ((l.getD i.toNat default).1) ((l.getD i.toNat default).2.1) ((l.getD i.toNat default).2.2))).toArray), (97, .int .i64 (payE p ((l.getD i.toNat default).1) ((l.getD i.toNat default).2.1) ((l.getD i.toNat default).2.2)))]) (L2 := (ol [9, 10, 11])) 3 [1, 2, 15, 16, 17, 96, 97] (by kernel_rfl) ?_
                    refine wc_new H (some 18) (row (iv .u64 (List.replicate 16 0)) 24) (fun r => .pointer (some ⟨r, 0, none⟩)) (by kernel_rfl) (fun b60 w61 H => ?_)
                    refine wc_st (b := b60) (off := 0) (Tb := 24) (vs := (iv .u64 (payP p ((l.getD i.toNat default).1) ((l.getD i.toNat default).2.1) ((l.getD i.toNat default).2.2)))) (cs' := (iv .u64 (payP p ((l.getD i.toNat default).1) ((l.getD i.toNat default).2.1) ((l.getD i.toNat default).2.2)))) H 0 24 (.agg (iv .u64 (payP p ((l.getD i.toNat default).1) ((l.getD i.toNat default).2.1) ((l.getD i.toNat default).2.2))).toArray) 16 (by kernel_rfl) rfl rfl (by exact (iv_length .u64 (payP p ((l.getD i.toNat default).1) ((l.getD i.toNat default).2.1) ((l.getD i.toNat default).2.2))).trans hf58) (by have h := (iv_length .u64 (List.replicate 16 0)).trans List.length_replicate; omega) (by exact iv_flat _ _) (by exact blit_all _ _ (((iv_length .u64 (payP p ((l.getD i.toNat default).1) ((l.getD i.toNat default).2.1) ((l.getD i.toNat default).2.2))).trans hf58).trans ((iv_length .u64 (List.replicate 16 0)).trans List.length_replicate).symm)) (fun w62 H => ?_)
                    dsimp only [List.set] at H
                    refine wc_run (T' := [(1, .slice A l.length c), (2, .pointer (some ⟨b1, 0, none⟩)), (15, .int .i64 i), (16, .pointer (some ⟨bc28, 0, none⟩)), (17, .int .i64 (payE p ((l.getD i.toNat default).1) ((l.getD i.toNat default).2.1) ((l.getD i.toNat default).2.2))), (18, .pointer (some ⟨b60, 0, none⟩)), (19, .int .i64 (payE p ((l.getD i.toNat default).1) ((l.getD i.toNat default).2.1) ((l.getD i.toNat default).2.2)))]) (L2 := (ol [])) 1 [1, 2, 15, 16, 17, 18, 19] (by kernel_rfl) ?_
                    refine wc_nil rfl ?_
                    refine n_np ?_
                    exact cut_end (b60) [1, 2, 15, 16, 17, 18, 19] (by kernel_rfl) ⟨H, hf58, hf59⟩
                  · refine wc_new H (some 18) (row (iv .u64 (List.replicate 16 0)) 24) (fun r => .pointer (some ⟨r, 0, none⟩)) (by kernel_rfl) (fun b63 w64 H => ?_)
                    refine wc_call (some 95) (by kernel_rfl) (proctorref19_Pay w64 p ((l.getD i.toNat default).1) ((l.getD i.toNat default).2.1) ((l.getD i.toNat default).2.2) (by first | assumption | omega | (simp_all; done)) (by first | assumption | omega | (simp_all; done))) ?_
                    rintro _ w65 ⟨rfl, H1, hf66, hf67⟩
                    refine ⟨_, rfl, fun _ => H1.keep, ?_⟩
                    replace H := H.call H1
                    simp only [List.nil_append] at H
                    refine wc_run (T' := [(1, .slice A l.length c), (2, .pointer (some ⟨b1, 0, none⟩)), (15, .int .i64 i), (16, .pointer (some ⟨bc28, 0, none⟩)), (17, .int .i64 (payE p ((l.getD i.toNat default).1) ((l.getD i.toNat default).2.1) ((l.getD i.toNat default).2.2))), (18, .pointer (some ⟨b63, 0, none⟩)), (96, .agg (iv .u64 (payP p ((l.getD i.toNat default).1) ((l.getD i.toNat default).2.1) ((l.getD i.toNat default).2.2))).toArray), (97, .int .i64 (payE p ((l.getD i.toNat default).1) ((l.getD i.toNat default).2.1) ((l.getD i.toNat default).2.2)))]) (L2 := (ol [10, 11])) 3 [1, 2, 15, 16, 17, 18, 96, 97] (by kernel_rfl) ?_
                    refine wc_st (b := b63) (off := 0) (Tb := 24) (vs := (iv .u64 (payP p ((l.getD i.toNat default).1) ((l.getD i.toNat default).2.1) ((l.getD i.toNat default).2.2)))) (cs' := (iv .u64 (payP p ((l.getD i.toNat default).1) ((l.getD i.toNat default).2.1) ((l.getD i.toNat default).2.2)))) H 0 24 (.agg (iv .u64 (payP p ((l.getD i.toNat default).1) ((l.getD i.toNat default).2.1) ((l.getD i.toNat default).2.2))).toArray) 16 (by kernel_rfl) rfl rfl (by exact (iv_length .u64 (payP p ((l.getD i.toNat default).1) ((l.getD i.toNat default).2.1) ((l.getD i.toNat default).2.2))).trans hf66) (by have h := (iv_length .u64 (List.replicate 16 0)).trans List.length_replicate; omega) (by exact iv_flat _ _) (by exact blit_all _ _ (((iv_length .u64 (payP p ((l.getD i.toNat default).1) ((l.getD i.toNat default).2.1) ((l.getD i.toNat default).2.2))).trans hf66).trans ((iv_length .u64 (List.replicate 16 0)).trans List.length_replicate).symm)) (fun w68 H => ?_)
                    dsimp only [List.set] at H
                    refine wc_run (T' := [(1, .slice A l.length c), (2, .pointer (some ⟨b1, 0, none⟩)), (15, .int .i64 i), (16, .pointer (some ⟨bc28, 0, none⟩)), (17, .int .i64 (payE p ((l.getD i.toNat default).1) ((l.getD i.toNat default).2.1) ((l.getD i.toNat default).2.2))), (18, .pointer (some ⟨b63, 0, none⟩)), (19, .int .i64 (payE p ((l.getD i.toNat default).1) ((l.getD i.toNat default).2.1) ((l.getD i.toNat default).2.2)))]) (L2 := (ol [])) 1 [1, 2, 15, 16, 17, 18, 19] (by kernel_rfl) ?_
                    refine wc_nil rfl ?_
                    refine n_np ?_
                    exact cut_end (b63) [1, 2, 15, 16, 17, 18, 19] (by kernel_rfl) ⟨H, hf66, hf67⟩
                rintro bc50 w69 ⟨H, hf70, hf71⟩
                try dsimp only at H hf70 hf71
                refine wn_pick (T' := [(1, .slice A l.length c), (2, .pointer (some ⟨b1, 0, none⟩)), (15, .int .i64 i), (16, .pointer (some ⟨bc28, 0, none⟩)), (17, .int .i64 (payE p ((l.getD i.toNat default).1) ((l.getD i.toNat default).2.1) ((l.getD i.toNat default).2.2))), (18, .pointer (some ⟨bc50, 0, none⟩)), (19, .int .i64 (payE p ((l.getD i.toNat default).1) ((l.getD i.toNat default).2.1) ((l.getD i.toNat default).2.2)))]) [1, 2, 15, 16, 17, 18, 19] (by kernel_rfl) ?_
                refine wn_seq (by kernel_rfl) ?_
                refine wn_reg 8 (by kernel_rfl) ?_
                refine wc_ld (b := bc28) (off := 0) (some 98) 24 (.agg (iv .u64 (payP p ((l.getD i.toNat default).1) ((l.getD i.toNat default).2.1) ((l.getD i.toNat default).2.2))).toArray) (by kernel_rfl) (Ld.entW H 1 (n := 16) rfl (by kernel_rfl) (by exact (iv_length .u64 (payP p ((l.getD i.toNat default).1) ((l.getD i.toNat default).2.1) ((l.getD i.toNat default).2.2))).trans hf70)) ?_
                refine wc_ld (b := bc50) (off := 0) (some 99) 24 (.agg (iv .u64 (payP p ((l.getD i.toNat default).1) ((l.getD i.toNat default).2.1) ((l.getD i.toNat default).2.2))).toArray) (by kernel_rfl) (Ld.entW H 0 (n := 16) rfl (by kernel_rfl) (by exact (iv_length .u64 (payP p ((l.getD i.toNat default).1) ((l.getD i.toNat default).2.1) ((l.getD i.toNat default).2.2))).trans hf70)) ?_
                refine wc_eqA (c := decide ((payP p ((l.getD i.toNat default).1) ((l.getD i.toNat default).2.1) ((l.getD i.toNat default).2.2)) = (payP p ((l.getD i.toNat default).1) ((l.getD i.toNat default).2.1) ((l.getD i.toNat default).2.2)))) 2 (some 100) 24 false (iv .u64 (payP p ((l.getD i.toNat default).1) ((l.getD i.toNat default).2.1) ((l.getD i.toNat default).2.2))) (iv .u64 (payP p ((l.getD i.toNat default).1) ((l.getD i.toNat default).2.1) ((l.getD i.toNat default).2.2))) (by kernel_rfl) (EqV.arrC (k := .u64) (n := 16) (by kernel_rfl) (payP p ((l.getD i.toNat default).1) ((l.getD i.toNat default).2.1) ((l.getD i.toNat default).2.2)) (payP p ((l.getD i.toNat default).1) ((l.getD i.toNat default).2.1) ((l.getD i.toNat default).2.2)) (by exact hf70) (by exact hf70)) ?_
                refine wc_run (T' := [(1, .slice A l.length c), (2, .pointer (some ⟨b1, 0, none⟩)), (15, .int .i64 i), (17, .int .i64 (payE p ((l.getD i.toNat default).1) ((l.getD i.toNat default).2.1) ((l.getD i.toNat default).2.2))), (19, .int .i64 (payE p ((l.getD i.toNat default).1) ((l.getD i.toNat default).2.1) ((l.getD i.toNat default).2.2))), (101, .bool (!decide ((payP p ((l.getD i.toNat default).1) ((l.getD i.toNat default).2.1) ((l.getD i.toNat default).2.2)) = (payP p ((l.getD i.toNat default).1) ((l.getD i.toNat default).2.1) ((l.getD i.toNat default).2.2)))))]) (L2 := (rng 4 4)) 1 [1, 2, 15, 17, 19, 101] (by kernel_rfl) ?_
                rcases Bool.eq_false_or_eq_true (!decide ((payP p ((l.getD i.toNat default).1) ((l.getD i.toNat default).2.1) ((l.getD i.toNat default).2.2)) = (payP p ((l.getD i.toNat default).1) ((l.getD i.toNat default).2.1) ((l.getD i.toNat default).2.2)))) with hg72 | hg72
                · rw [hg72]
                  have hg72 := ndT hg72
                  exact absurd rfl hg72
                · rw [hg72]
                  have hg72 := ndF hg72
                  refine wc_run (T' := [(1, .slice A l.length c), (2, .pointer (some ⟨b1, 0, none⟩)), (15, .int .i64 i), (105, .bool ((payE p ((l.getD i.toNat default).1) ((l.getD i.toNat default).2.1) ((l.getD i.toNat default).2.2)) != (payE p ((l.getD i.toNat default).1) ((l.getD i.toNat default).2.1) ((l.getD i.toNat default).2.2))))]) (L2 := (rng 8 0)) 4 [1, 2, 15, 105] (by kernel_rfl) ?_
                  refine wc_nil rfl ?_
                  refine n_sq ?_
                  refine wn_cond (.tmp 105) ((payE p ((l.getD i.toNat default).1) ((l.getD i.toNat default).2.1) ((l.getD i.toNat default).2.2)) != (payE p ((l.getD i.toNat default).1) ((l.getD i.toNat default).2.1) ((l.getD i.toNat default).2.2))) (by kernel_rfl) rfl (fun hc73 => ?_) (fun hc73 => ?_)
                  · have hc73 := bneT hc73
                    exact absurd rfl hc73
                  · have hc73 := bneF hc73
                    refine wn_skip (by kernel_rfl) ?_
                    refine n_blk ?_
                    refine n_sq ?_
                    refine wn_reg 3 (by kernel_rfl) ?_
                    refine wc_run (T' := [(1, .slice A l.length c), (2, .pointer (some ⟨b1, 0, none⟩)), (79, .int .i64 (IntKind.i64.wrap (i + 1)))]) (L2 := (rng 2 1)) 2 [1, 2, 79] (by kernel_rfl) ?_
                    rw [wi64 (x := i + 1) (by omega) (by omega)]
                    refine wc_run (T' := [(1, .slice A l.length c), (2, .pointer (some ⟨b1, 0, none⟩)), (15, .int .i64 (i + 1))]) (L2 := (rng 3 0)) 1 [1, 2, 15] (by kernel_rfl) ?_
                    refine wc_nil rfl ?_
                    refine round_end (i + 1) [1, 2, 15] (by kernel_rfl) ⟨H.sub (by repeat first | exact List.Sublist.slnil | apply List.Sublist.cons_cons | apply List.Sublist.cons), ?_⟩ ?_
                    · omega
                    · first | omega | (dsimp only; omega)
              · have hc27 := of_decide_eq_false hc27
                refine wn_exit 0 (by kernel_rfl) ?_
                refine e_sq ?_
                refine e_then ?_
                refine e_blk ?_
                refine n_sq ?_
                refine wn_seq (by kernel_rfl) ?_
                refine wn_reg 2 (by kernel_rfl) ?_
                refine wc_call (some 106) (by kernel_rfl) (proctorlaw19_anchored w26) ?_
                rintro _ w74 ⟨rfl, H1⟩
                refine ⟨_, rfl, fun _ => H1.keep, ?_⟩
                replace H := H.call H1
                simp only [List.nil_append] at H
                refine wc_run (T' := [(4, .bool true)]) (L2 := (rng 2 0)) 1 [4] (by kernel_rfl) ?_
                refine wc_nil rfl ?_
                refine n_sq ?_
                refine wn_ret (by kernel_rfl) ?_
                refine ret1 _ (Or.inr rfl) Try.results3 rfl ?_
                exact ⟨rfl, H.nil⟩

noncomputable def cd_proctorlaw19_LedgerKeeps : Code := (Try.f4.body).getD .skip
theorem proctorlaw19_LedgerKeeps (w : World) (p : List Int) (l : List Mv) (A : Option Addr) (c : Nat) (f : Int) (t : Int) (a : Int) (hp : p.length = 16) (hb : B64 p) (hl : Rd w A (mvC l)) (hn : l.length ≤ 140737488351232) (ha : 0 ≤ a ∧ a < 18446744073709551616) (hu : ∀ m ∈ l, 0 ≤ m.2.2) :
    Calls Try.prog 4 #[.agg (iv .u64 p).toArray, .slice A l.length c, .agg #[.int .i64 f, .int .i64 t, .int .u64 a]] w (fun e w' => e = .returned (.bool true) ∧ Hp [] w w' []) := by
  have hk := fun h => allF_keeps (l := l) hp hb (fun q f t a h => payP_B64 h f t a) hu h
  have hz : payE p f t a ≠ 0 → payP p f t a = List.replicate 16 0 := fun h => by unfold payP; rw [if_neg h]
  have hq := fun h => pay_back (f := f) (t := t) (a := a) hp hb (payP_B64 hb _ _ _) ha.1 h
  refine enter (args := [_, _, _]) (c := cd_proctorlaw19_LedgerKeeps) (N := 83) Try.func4 (by kernel_rfl) (by kernel_rfl) (by simp) ?_
  have H := Hp.start w
  refine wn_seq (by kernel_rfl) ?_
  refine wn_reg 3 (by kernel_rfl) ?_
  refine wc_new H (some 3) (row (iv .u64 p) 24) (fun r => .pointer (some ⟨r, 0, none⟩)) (by kernel_rfl) (fun b1 w2 H => ?_)
  refine wc_new H (some 5) (row ([.int .i64 f, .int .i64 t, .int .u64 a]) 39) (fun r => .pointer (some ⟨r, 0, none⟩)) (by kernel_rfl) (fun b3 w4 H => ?_)
  refine wc_run (T' := [(1, .slice A l.length c), (3, .pointer (some ⟨b1, 0, none⟩)), (5, .pointer (some ⟨b3, 0, none⟩))]) (L2 := (rng 3 0)) 1 [1, 3, 5] (by kernel_rfl) ?_
  refine wc_nil rfl ?_
  refine n_sq ?_
  refine wn_seq (by kernel_rfl) ?_
  refine wn_reg 11 (by kernel_rfl) ?_
  refine wc_ld (b := b1) (off := 0) (some 18) 24 (.agg (iv .u64 p).toArray) (by kernel_rfl) (Ld.entW H 1 (n := 16) rfl (by kernel_rfl) (by exact (iv_length .u64 p).trans hp)) ?_
  refine wc_run (T' := [(3, .pointer (some ⟨b1, 0, none⟩)), (5, .pointer (some ⟨b3, 0, none⟩)), (18, .agg (iv .u64 p).toArray), (19, .slice A l.length c)]) (L2 := (rng 2 9)) 1 [3, 5, 18, 19] (by kernel_rfl) ?_
  refine wc_call (some 20) (by kernel_rfl) (ledger_All w4 p l A c (by first | assumption | omega | (simp_all; done)) (by first | assumption | omega | (simp_all; done)) (hl.keep H.keep) (by first | assumption | omega | (simp_all; done))) ?_
  rintro _ w5 ⟨rfl, H1, hf6, hf7⟩
  refine ⟨_, rfl, fun _ => H1.keep, ?_⟩
  replace H := H.call H1
  simp only [List.nil_append] at H
  refine wc_run (T' := [(3, .pointer (some ⟨b1, 0, none⟩)), (5, .pointer (some ⟨b3, 0, none⟩)), (21, .agg (iv .u64 ((allF p l).1)).toArray), (22, .int .i64 ((allF p l).2.1)), (23, .int .i64 ((allF p l).2.2))]) (L2 := (rng 7 4)) 4 [3, 5, 21, 22, 23] (by kernel_rfl) ?_
  refine wc_new H (some 7) (row (iv .u64 (List.replicate 16 0)) 24) (fun r => .pointer (some ⟨r, 0, none⟩)) (by kernel_rfl) (fun b8 w9 H => ?_)
  refine wc_st (b := b8) (off := 0) (Tb := 24) (vs := (iv .u64 ((allF p l).1))) (cs' := (iv .u64 ((allF p l).1))) H 0 24 (.agg (iv .u64 ((allF p l).1)).toArray) 16 (by kernel_rfl) rfl rfl (by exact (iv_length .u64 ((allF p l).1)).trans hf6) (by have h := (iv_length .u64 (List.replicate 16 0)).trans List.length_replicate; omega) (by exact iv_flat _ _) (by exact blit_all _ _ (((iv_length .u64 ((allF p l).1)).trans hf6).trans ((iv_length .u64 (List.replicate 16 0)).trans List.length_replicate).symm)) (fun w10 H => ?_)
  dsimp only [List.set] at H
  refine wc_run (T' := [(3, .pointer (some ⟨b1, 0, none⟩)), (5, .pointer (some ⟨b3, 0, none⟩)), (7, .pointer (some ⟨b8, 0, none⟩)), (9, .int .i64 ((allF p l).2.2))]) (L2 := (rng 11 0)) 2 [3, 5, 7, 9] (by kernel_rfl) ?_
  refine wc_nil rfl ?_
  refine n_sq ?_
  refine wn_seq (by kernel_rfl) ?_
  refine wn_seq (by kernel_rfl) ?_
  refine wn_reg 2 (by kernel_rfl) ?_
  refine wc_run (T' := [(3, .pointer (some ⟨b1, 0, none⟩)), (5, .pointer (some ⟨b3, 0, none⟩)), (7, .pointer (some ⟨b8, 0, none⟩)), (25, .bool (((allF p l).2.2) == (0 : Int)))]) (L2 := (rng 2 0)) 2 [3, 5, 7, 25] (by kernel_rfl) ?_
  refine wc_nil rfl ?_
  refine n_sq ?_
  refine wn_cond (.tmp 25) (((allF p l).2.2) == (0 : Int)) (by kernel_rfl) rfl (fun hc11 => ?_) (fun hc11 => ?_)
  · have hc11 := eq_of_beq hc11
    refine wn_seq (by kernel_rfl) ?_
    refine wn_reg 7 (by kernel_rfl) ?_
    refine wc_ld (b := b1) (off := 0) (some 27) 24 (.agg (iv .u64 p).toArray) (by kernel_rfl) (Ld.entW H 2 (n := 16) rfl (by kernel_rfl) (by exact (iv_length .u64 p).trans hp)) ?_
    refine wc_call (some 28) (by kernel_rfl) (ledger_Total w10 p (by first | assumption | omega | (simp_all; done)) (by first | assumption | omega | (simp_all; done))) ?_
    rintro _ w12 ⟨rfl, H1⟩
    refine ⟨_, rfl, fun _ => H1.keep, ?_⟩
    replace H := H.call H1
    simp only [List.nil_append] at H
    refine wc_run (T' := [(3, .pointer (some ⟨b1, 0, none⟩)), (5, .pointer (some ⟨b3, 0, none⟩)), (7, .pointer (some ⟨b8, 0, none⟩)), (10, .int .u64 (totV (tot p 0))), (11, .int .i64 (totE (tot p 0)))]) (L2 := (rng 7 0)) 5 [3, 5, 7, 10, 11] (by kernel_rfl) ?_
    refine wc_nil rfl ?_
    refine n_sq ?_
    refine wn_seq (by kernel_rfl) ?_
    refine wn_reg 7 (by kernel_rfl) ?_
    refine wc_ld (b := b8) (off := 0) (some 32) 24 (.agg (iv .u64 ((allF p l).1)).toArray) (by kernel_rfl) (Ld.entW H 0 (n := 16) rfl (by kernel_rfl) (by exact (iv_length .u64 ((allF p l).1)).trans hf6)) ?_
    refine wc_call (some 33) (by kernel_rfl) (ledger_Total w12 ((allF p l).1) (by first | assumption | omega | (simp_all; done)) (by first | assumption | omega | (simp_all; done))) ?_
    rintro _ w13 ⟨rfl, H1⟩
    refine ⟨_, rfl, fun _ => H1.keep, ?_⟩
    replace H := H.call H1
    simp only [List.nil_append] at H
    refine wc_run (T' := [(3, .pointer (some ⟨b1, 0, none⟩)), (5, .pointer (some ⟨b3, 0, none⟩)), (10, .int .u64 (totV (tot p 0))), (11, .int .i64 (totE (tot p 0))), (12, .int .u64 (totV (tot ((allF p l).1) 0))), (13, .int .i64 (totE (tot ((allF p l).1) 0)))]) (L2 := (rng 7 0)) 5 [3, 5, 10, 11, 12, 13] (by kernel_rfl) ?_
    refine wc_nil rfl ?_
    refine n_sq ?_
    refine wn_seq (by kernel_rfl) ?_
    refine wn_reg 11 (by kernel_rfl) ?_
    refine wc_run (T' := [(3, .pointer (some ⟨b1, 0, none⟩)), (5, .pointer (some ⟨b3, 0, none⟩)), (10, .int .u64 (totV (tot p 0))), (12, .int .u64 (totV (tot ((allF p l).1) 0))), (13, .int .i64 (totE (tot ((allF p l).1) 0))), (38, .bool ((totE (tot p 0)) != (0 : Int)))]) (L2 := (rng 3 8)) 3 [3, 5, 10, 12, 13, 38] (by kernel_rfl) ?_
    rcases Bool.eq_false_or_eq_true ((totE (tot p 0)) != (0 : Int)) with hg14 | hg14
    · rw [hg14]
      have hg14 := bneT hg14
      refine wc_run (T' := [(3, .pointer (some ⟨b1, 0, none⟩)), (5, .pointer (some ⟨b3, 0, none⟩)), (46, .bool true)]) (L2 := (rng 11 0)) 8 [3, 5, 46] (by kernel_rfl) ?_
      refine wc_nil rfl ?_
      refine n_sq ?_
      refine wn_condT (.tmp 46) (by kernel_rfl) rfl ?_
      refine wn_seq (by kernel_rfl) ?_
      refine wn_reg 1 (by kernel_rfl) ?_
      refine wc_run (T' := [(6, .bool false)]) (L2 := (rng 1 0)) 1 [6] (by kernel_rfl) ?_
      refine wc_nil rfl ?_
      refine n_sq ?_
      refine wn_ret (by kernel_rfl) ?_
      refine r_sq ?_
      refine ret1 _ (Or.inr rfl) Try.results4 rfl ?_
      have he15 : true = false := by
        simp_all [zeros]
      exact ⟨by rw [he15], H.nil⟩
    · rw [hg14]
      have hg14 := bneF hg14
      refine wc_run (T' := [(3, .pointer (some ⟨b1, 0, none⟩)), (5, .pointer (some ⟨b3, 0, none⟩)), (10, .int .u64 (totV (tot p 0))), (12, .int .u64 (totV (tot ((allF p l).1) 0))), (42, .bool ((totE (tot ((allF p l).1) 0)) != (0 : Int)))]) (L2 := (rng 7 4)) 4 [3, 5, 10, 12, 42] (by kernel_rfl) ?_
      rcases Bool.eq_false_or_eq_true ((totE (tot ((allF p l).1) 0)) != (0 : Int)) with hg16 | hg16
      · rw [hg16]
        have hg16 := bneT hg16
        refine wc_run (T' := [(3, .pointer (some ⟨b1, 0, none⟩)), (5, .pointer (some ⟨b3, 0, none⟩)), (46, .bool true)]) (L2 := (rng 11 0)) 4 [3, 5, 46] (by kernel_rfl) ?_
        refine wc_nil rfl ?_
        refine n_sq ?_
        refine wn_condT (.tmp 46) (by kernel_rfl) rfl ?_
        refine wn_seq (by kernel_rfl) ?_
        refine wn_reg 1 (by kernel_rfl) ?_
        refine wc_run (T' := [(6, .bool false)]) (L2 := (rng 1 0)) 1 [6] (by kernel_rfl) ?_
        refine wc_nil rfl ?_
        refine n_sq ?_
        refine wn_ret (by kernel_rfl) ?_
        refine r_sq ?_
        refine ret1 _ (Or.inr rfl) Try.results4 rfl ?_
        have he17 : true = false := by
          simp_all [zeros]
        exact ⟨by rw [he17], H.nil⟩
      · rw [hg16]
        have hg16 := bneF hg16
        refine wc_run (T' := [(3, .pointer (some ⟨b1, 0, none⟩)), (5, .pointer (some ⟨b3, 0, none⟩)), (46, .bool ((totV (tot p 0)) != (totV (tot ((allF p l).1) 0))))]) (L2 := (rng 11 0)) 4 [3, 5, 46] (by kernel_rfl) ?_
        refine wc_nil rfl ?_
        refine n_sq ?_
        refine wn_cond (.tmp 46) ((totV (tot p 0)) != (totV (tot ((allF p l).1) 0))) (by kernel_rfl) rfl (fun hc18 => ?_) (fun hc18 => ?_)
        · have hc18 := bneT hc18
          refine wn_seq (by kernel_rfl) ?_
          refine wn_reg 1 (by kernel_rfl) ?_
          refine wc_run (T' := [(6, .bool false)]) (L2 := (rng 1 0)) 1 [6] (by kernel_rfl) ?_
          refine wc_nil rfl ?_
          refine n_sq ?_
          refine wn_ret (by kernel_rfl) ?_
          refine r_sq ?_
          refine ret1 _ (Or.inr rfl) Try.results4 rfl ?_
          have he19 : true = false := by
            simp_all [zeros]
          exact ⟨by rw [he19], H.nil⟩
        · have hc18 := bneF hc18
          refine wn_skip (by kernel_rfl) ?_
          refine n_sq ?_
          refine wn_seq (by kernel_rfl) ?_
          refine wn_reg 9 (by kernel_rfl) ?_
          refine wc_ld (b := b1) (off := 0) (some 48) 24 (.agg (iv .u64 p).toArray) (by kernel_rfl) (Ld.entW H 2 (n := 16) rfl (by kernel_rfl) (by exact (iv_length .u64 p).trans hp)) ?_
          refine wc_ld (b := b3) (off := 0) (some 49) 39 (.agg #[.int .i64 f, .int .i64 t, .int .u64 a]) (by kernel_rfl) (Ld.entW H 1 (n := 3) rfl (by kernel_rfl) (by rfl)) ?_
          refine wc_call (some 50) (by kernel_rfl) (ledger_Pay w13 p f t a (by first | assumption | omega | (simp_all; done)) (by first | assumption | omega | (simp_all; done))) ?_
          rintro _ w20 ⟨rfl, H1, hf21, hf22⟩
          refine ⟨_, rfl, fun _ => H1.keep, ?_⟩
          replace H := H.call H1
          simp only [List.nil_append] at H
          refine wc_run (T' := [(3, .pointer (some ⟨b1, 0, none⟩)), (5, .pointer (some ⟨b3, 0, none⟩)), (51, .agg (iv .u64 (payP p f t a)).toArray), (52, .int .i64 (payE p f t a))]) (L2 := (rng 6 3)) 3 [3, 5, 51, 52] (by kernel_rfl) ?_
          refine wc_new H (some 14) (row (iv .u64 (List.replicate 16 0)) 24) (fun r => .pointer (some ⟨r, 0, none⟩)) (by kernel_rfl) (fun b23 w24 H => ?_)
          refine wc_st (b := b23) (off := 0) (Tb := 24) (vs := (iv .u64 (payP p f t a))) (cs' := (iv .u64 (payP p f t a))) H 0 24 (.agg (iv .u64 (payP p f t a)).toArray) 16 (by kernel_rfl) rfl rfl (by exact (iv_length .u64 (payP p f t a)).trans hf21) (by have h := (iv_length .u64 (List.replicate 16 0)).trans List.length_replicate; omega) (by exact iv_flat _ _) (by exact blit_all _ _ (((iv_length .u64 (payP p f t a)).trans hf21).trans ((iv_length .u64 (List.replicate 16 0)).trans List.length_replicate).symm)) (fun w25 H => ?_)
          dsimp only [List.set] at H
          refine wc_run (T' := [(3, .pointer (some ⟨b1, 0, none⟩)), (5, .pointer (some ⟨b3, 0, none⟩)), (9, .int .i64 (payE p f t a)), (14, .pointer (some ⟨b23, 0, none⟩))]) (L2 := (rng 9 0)) 1 [3, 5, 9, 14] (by kernel_rfl) ?_
          refine wc_nil rfl ?_
          refine n_sq ?_
          refine wn_seq (by kernel_rfl) ?_
          refine wn_seq (by kernel_rfl) ?_
          refine wn_reg 2 (by kernel_rfl) ?_
          refine wc_run (T' := [(3, .pointer (some ⟨b1, 0, none⟩)), (5, .pointer (some ⟨b3, 0, none⟩)), (14, .pointer (some ⟨b23, 0, none⟩)), (54, .bool ((payE p f t a) != (0 : Int)))]) (L2 := (rng 2 0)) 2 [3, 5, 14, 54] (by kernel_rfl) ?_
          refine wc_nil rfl ?_
          refine n_sq ?_
          refine wn_cond (.tmp 54) ((payE p f t a) != (0 : Int)) (by kernel_rfl) rfl (fun hc26 => ?_) (fun hc26 => ?_)
          · have hc26 := bneT hc26
            refine wn_seq (by kernel_rfl) ?_
            refine wn_reg 7 (by kernel_rfl) ?_
            refine wc_call (some 55) (by kernel_rfl) (proctorlaw19_anchored w25) ?_
            rintro _ w27 ⟨rfl, H1⟩
            refine ⟨_, rfl, fun _ => H1.keep, ?_⟩
            replace H := H.call H1
            simp only [List.nil_append] at H
            refine wc_run (T' := [(14, .pointer (some ⟨b23, 0, none⟩)), (56, .bool true)]) (L2 := (rng 2 5)) 1 [14, 56] (by kernel_rfl) ?_
            refine wc_ld (b := b23) (off := 0) (some 57) 24 (.agg (iv .u64 (payP p f t a)).toArray) (by kernel_rfl) (Ld.entW H 0 (n := 16) rfl (by kernel_rfl) (by exact (iv_length .u64 (payP p f t a)).trans hf21)) ?_
            refine wc_run (T' := [(56, .bool true), (57, .agg (iv .u64 (payP p f t a)).toArray), (58, .agg (iv .u64 (List.replicate 16 0)).toArray)]) (L2 := (rng 4 3)) 1 [56, 57, 58] (by kernel_rfl) ?_
            refine wc_eqA (c := decide ((payP p f t a) = (List.replicate 16 0))) 2 (some 59) 24 true (iv .u64 (payP p f t a)) (iv .u64 (List.replicate 16 0)) (by kernel_rfl) (EqV.arrC (k := .u64) (n := 16) (by kernel_rfl) (payP p f t a) (List.replicate 16 0) (by exact hf21) (by exact List.length_replicate)) ?_
            refine wc_run (T' := [(6, .bool (decide ((payP p f t a) = (List.replicate 16 0))))]) (L2 := (rng 7 0)) 2 [6] (by kernel_rfl) ?_
            refine wc_nil rfl ?_
            refine n_sq ?_
            refine wn_ret (by kernel_rfl) ?_
            refine r_sq ?_
            refine ret1 _ (Or.inr rfl) Try.results4 rfl ?_
            have he28 : true = decide ((payP p f t a) = (List.replicate 16 0)) := by
              simp_all [zeros]
            exact ⟨by rw [he28], H.nil⟩
          · have hc26 := bneF hc26
            refine wn_skip (by kernel_rfl) ?_
            refine n_sq ?_
            refine wn_seq (by kernel_rfl) ?_
            refine wn_reg 15 (by kernel_rfl) ?_
            refine wc_ld (b := b23) (off := 0) (some 62) 24 (.agg (iv .u64 (payP p f t a)).toArray) (by kernel_rfl) (Ld.entW H 0 (n := 16) rfl (by kernel_rfl) (by exact (iv_length .u64 (payP p f t a)).trans hf21)) ?_
            refine wc_run (T' := [(3, .pointer (some ⟨b1, 0, none⟩)), (5, .pointer (some ⟨b3, 0, none⟩)), (62, .agg (iv .u64 (payP p f t a)).toArray), (63, .pointer (some ⟨b3, 1, none⟩))]) (L2 := (rng 2 13)) 1 [3, 5, 62, 63] (by kernel_rfl) ?_
            refine wc_ld (b := b3) (off := 1) (some 64) 3 (.int .i64 t) (by kernel_rfl) (Ld.ent1 H 2 rfl (by kernel_rfl) (by rfl)) ?_
            refine wc_run (T' := [(3, .pointer (some ⟨b1, 0, none⟩)), (5, .pointer (some ⟨b3, 0, none⟩)), (62, .agg (iv .u64 (payP p f t a)).toArray), (64, .int .i64 t), (65, .pointer (some ⟨b3, 0, none⟩))]) (L2 := (rng 4 11)) 1 [3, 5, 62, 64, 65] (by kernel_rfl) ?_
            refine wc_ld (b := b3) (off := 0) (some 66) 3 (.int .i64 f) (by kernel_rfl) (Ld.ent1 H 2 rfl (by kernel_rfl) (by rfl)) ?_
            refine wc_run (T' := [(3, .pointer (some ⟨b1, 0, none⟩)), (62, .agg (iv .u64 (payP p f t a)).toArray), (64, .int .i64 t), (66, .int .i64 f), (67, .pointer (some ⟨b3, 2, none⟩))]) (L2 := (rng 6 9)) 1 [3, 62, 64, 66, 67] (by kernel_rfl) ?_
            refine wc_ld (b := b3) (off := 2) (some 68) 22 (.int .u64 a) (by kernel_rfl) (Ld.ent1 H 2 rfl (by kernel_rfl) (by rfl)) ?_
            refine wc_run (T' := [(3, .pointer (some ⟨b1, 0, none⟩)), (62, .agg (iv .u64 (payP p f t a)).toArray), (69, .agg #[.int .i64 t, .int .i64 f, .int .u64 a])]) (L2 := (rng 8 7)) 1 [3, 62, 69] (by kernel_rfl) ?_
            refine wc_call (some 70) (by kernel_rfl) (ledger_Pay w25 (payP p f t a) t f a (by first | assumption | omega | (simp_all; done)) (by first | assumption | omega | (simp_all; done))) ?_
            rintro _ w29 ⟨rfl, H1, hf30, hf31⟩
            refine ⟨_, rfl, fun _ => H1.keep, ?_⟩
            replace H := H.call H1
            simp only [List.nil_append] at H
            refine wc_run (T' := [(3, .pointer (some ⟨b1, 0, none⟩)), (71, .agg (iv .u64 (payP (payP p f t a) t f a)).toArray), (72, .int .i64 (payE (payP p f t a) t f a))]) (L2 := (rng 12 3)) 3 [3, 71, 72] (by kernel_rfl) ?_
            refine wc_new H (some 15) (row (iv .u64 (List.replicate 16 0)) 24) (fun r => .pointer (some ⟨r, 0, none⟩)) (by kernel_rfl) (fun b32 w33 H => ?_)
            refine wc_st (b := b32) (off := 0) (Tb := 24) (vs := (iv .u64 (payP (payP p f t a) t f a))) (cs' := (iv .u64 (payP (payP p f t a) t f a))) H 0 24 (.agg (iv .u64 (payP (payP p f t a) t f a)).toArray) 16 (by kernel_rfl) rfl rfl (by exact (iv_length .u64 (payP (payP p f t a) t f a)).trans hf30) (by have h := (iv_length .u64 (List.replicate 16 0)).trans List.length_replicate; omega) (by exact iv_flat _ _) (by exact blit_all _ _ (((iv_length .u64 (payP (payP p f t a) t f a)).trans hf30).trans ((iv_length .u64 (List.replicate 16 0)).trans List.length_replicate).symm)) (fun w34 H => ?_)
            dsimp only [List.set] at H
            refine wc_run (T' := [(3, .pointer (some ⟨b1, 0, none⟩)), (15, .pointer (some ⟨b32, 0, none⟩)), (16, .int .i64 (payE (payP p f t a) t f a))]) (L2 := (rng 15 0)) 1 [3, 15, 16] (by kernel_rfl) ?_
            refine wc_nil rfl ?_
            refine n_sq ?_
            refine wn_seq (by kernel_rfl) ?_
            refine wn_reg 11 (by kernel_rfl) ?_
            refine wc_call (some 73) (by kernel_rfl) (proctorlaw19_anchored w34) ?_
            rintro _ w35 ⟨rfl, H1⟩
            refine ⟨_, rfl, fun _ => H1.keep, ?_⟩
            replace H := H.call H1
            simp only [List.nil_append] at H
            refine wc_run (T' := [(3, .pointer (some ⟨b1, 0, none⟩)), (15, .pointer (some ⟨b32, 0, none⟩)), (78, .bool ((payE (payP p f t a) t f a) == (0 : Int)))]) (L2 := (rng 6 5)) 5 [3, 15, 78] (by kernel_rfl) ?_
            rcases Bool.eq_false_or_eq_true ((payE (payP p f t a) t f a) == (0 : Int)) with hg36 | hg36
            · rw [hg36]
              have hg36 := eq_of_beq hg36
              refine wc_ld (b := b32) (off := 0) (some 79) 24 (.agg (iv .u64 (payP (payP p f t a) t f a)).toArray) (by kernel_rfl) (Ld.entW H 0 (n := 16) rfl (by kernel_rfl) (by exact (iv_length .u64 (payP (payP p f t a) t f a)).trans hf30)) ?_
              refine wc_ld (b := b1) (off := 0) (some 80) 24 (.agg (iv .u64 p).toArray) (by kernel_rfl) (Ld.entW H 4 (n := 16) rfl (by kernel_rfl) (by exact (iv_length .u64 p).trans hp)) ?_
              refine wc_eqA (c := decide ((payP (payP p f t a) t f a) = p)) 2 (some 81) 24 true (iv .u64 (payP (payP p f t a) t f a)) (iv .u64 p) (by kernel_rfl) (EqV.arrC (k := .u64) (n := 16) (by kernel_rfl) (payP (payP p f t a) t f a) p (by exact hf30) (by exact hp)) ?_
              refine wc_run (T' := [(6, .bool (decide ((payP (payP p f t a) t f a) = p)))]) (L2 := (rng 11 0)) 2 [6] (by kernel_rfl) ?_
              refine wc_nil rfl ?_
              refine n_sq ?_
              refine wn_ret (by kernel_rfl) ?_
              refine ret1 _ (Or.inr rfl) Try.results4 rfl ?_
              have he37 : true = decide ((payP (payP p f t a) t f a) = p) := by
                simp_all [zeros]
              exact ⟨by rw [he37], H.nil⟩
            · rw [hg36]
              have hg36 := ne_of_beq_false hg36
              refine wc_run (T' := [(6, .bool false)]) (L2 := (rng 11 0)) 5 [6] (by kernel_rfl) ?_
              refine wc_nil rfl ?_
              refine n_sq ?_
              refine wn_ret (by kernel_rfl) ?_
              refine ret1 _ (Or.inr rfl) Try.results4 rfl ?_
              have he38 : true = false := by
                simp_all [zeros]
              exact ⟨by rw [he38], H.nil⟩
  · have hc11 := ne_of_beq_false hc11
    refine wn_skip (by kernel_rfl) ?_
    refine n_sq ?_
    refine wn_seq (by kernel_rfl) ?_
    refine wn_reg 9 (by kernel_rfl) ?_
    refine wc_ld (b := b1) (off := 0) (some 48) 24 (.agg (iv .u64 p).toArray) (by kernel_rfl) (Ld.entW H 2 (n := 16) rfl (by kernel_rfl) (by exact (iv_length .u64 p).trans hp)) ?_
    refine wc_ld (b := b3) (off := 0) (some 49) 39 (.agg #[.int .i64 f, .int .i64 t, .int .u64 a]) (by kernel_rfl) (Ld.entW H 1 (n := 3) rfl (by kernel_rfl) (by rfl)) ?_
    refine wc_call (some 50) (by kernel_rfl) (ledger_Pay w10 p f t a (by first | assumption | omega | (simp_all; done)) (by first | assumption | omega | (simp_all; done))) ?_
    rintro _ w39 ⟨rfl, H1, hf40, hf41⟩
    refine ⟨_, rfl, fun _ => H1.keep, ?_⟩
    replace H := H.call H1
    simp only [List.nil_append] at H
    refine wc_run (T' := [(3, .pointer (some ⟨b1, 0, none⟩)), (5, .pointer (some ⟨b3, 0, none⟩)), (51, .agg (iv .u64 (payP p f t a)).toArray), (52, .int .i64 (payE p f t a))]) (L2 := (rng 6 3)) 3 [3, 5, 51, 52] (by kernel_rfl) ?_
    refine wc_new H (some 14) (row (iv .u64 (List.replicate 16 0)) 24) (fun r => .pointer (some ⟨r, 0, none⟩)) (by kernel_rfl) (fun b42 w43 H => ?_)
    refine wc_st (b := b42) (off := 0) (Tb := 24) (vs := (iv .u64 (payP p f t a))) (cs' := (iv .u64 (payP p f t a))) H 0 24 (.agg (iv .u64 (payP p f t a)).toArray) 16 (by kernel_rfl) rfl rfl (by exact (iv_length .u64 (payP p f t a)).trans hf40) (by have h := (iv_length .u64 (List.replicate 16 0)).trans List.length_replicate; omega) (by exact iv_flat _ _) (by exact blit_all _ _ (((iv_length .u64 (payP p f t a)).trans hf40).trans ((iv_length .u64 (List.replicate 16 0)).trans List.length_replicate).symm)) (fun w44 H => ?_)
    dsimp only [List.set] at H
    refine wc_run (T' := [(3, .pointer (some ⟨b1, 0, none⟩)), (5, .pointer (some ⟨b3, 0, none⟩)), (9, .int .i64 (payE p f t a)), (14, .pointer (some ⟨b42, 0, none⟩))]) (L2 := (rng 9 0)) 1 [3, 5, 9, 14] (by kernel_rfl) ?_
    refine wc_nil rfl ?_
    refine n_sq ?_
    refine wn_seq (by kernel_rfl) ?_
    refine wn_seq (by kernel_rfl) ?_
    refine wn_reg 2 (by kernel_rfl) ?_
    refine wc_run (T' := [(3, .pointer (some ⟨b1, 0, none⟩)), (5, .pointer (some ⟨b3, 0, none⟩)), (14, .pointer (some ⟨b42, 0, none⟩)), (54, .bool ((payE p f t a) != (0 : Int)))]) (L2 := (rng 2 0)) 2 [3, 5, 14, 54] (by kernel_rfl) ?_
    refine wc_nil rfl ?_
    refine n_sq ?_
    refine wn_cond (.tmp 54) ((payE p f t a) != (0 : Int)) (by kernel_rfl) rfl (fun hc45 => ?_) (fun hc45 => ?_)
    · have hc45 := bneT hc45
      refine wn_seq (by kernel_rfl) ?_
      refine wn_reg 7 (by kernel_rfl) ?_
      refine wc_call (some 55) (by kernel_rfl) (proctorlaw19_anchored w44) ?_
      rintro _ w46 ⟨rfl, H1⟩
      refine ⟨_, rfl, fun _ => H1.keep, ?_⟩
      replace H := H.call H1
      simp only [List.nil_append] at H
      refine wc_run (T' := [(14, .pointer (some ⟨b42, 0, none⟩)), (56, .bool true)]) (L2 := (rng 2 5)) 1 [14, 56] (by kernel_rfl) ?_
      refine wc_ld (b := b42) (off := 0) (some 57) 24 (.agg (iv .u64 (payP p f t a)).toArray) (by kernel_rfl) (Ld.entW H 0 (n := 16) rfl (by kernel_rfl) (by exact (iv_length .u64 (payP p f t a)).trans hf40)) ?_
      refine wc_run (T' := [(56, .bool true), (57, .agg (iv .u64 (payP p f t a)).toArray), (58, .agg (iv .u64 (List.replicate 16 0)).toArray)]) (L2 := (rng 4 3)) 1 [56, 57, 58] (by kernel_rfl) ?_
      refine wc_eqA (c := decide ((payP p f t a) = (List.replicate 16 0))) 2 (some 59) 24 true (iv .u64 (payP p f t a)) (iv .u64 (List.replicate 16 0)) (by kernel_rfl) (EqV.arrC (k := .u64) (n := 16) (by kernel_rfl) (payP p f t a) (List.replicate 16 0) (by exact hf40) (by exact List.length_replicate)) ?_
      refine wc_run (T' := [(6, .bool (decide ((payP p f t a) = (List.replicate 16 0))))]) (L2 := (rng 7 0)) 2 [6] (by kernel_rfl) ?_
      refine wc_nil rfl ?_
      refine n_sq ?_
      refine wn_ret (by kernel_rfl) ?_
      refine r_sq ?_
      refine ret1 _ (Or.inr rfl) Try.results4 rfl ?_
      have he47 : true = decide ((payP p f t a) = (List.replicate 16 0)) := by
        simp_all [zeros]
      exact ⟨by rw [he47], H.nil⟩
    · have hc45 := bneF hc45
      refine wn_skip (by kernel_rfl) ?_
      refine n_sq ?_
      refine wn_seq (by kernel_rfl) ?_
      refine wn_reg 15 (by kernel_rfl) ?_
      refine wc_ld (b := b42) (off := 0) (some 62) 24 (.agg (iv .u64 (payP p f t a)).toArray) (by kernel_rfl) (Ld.entW H 0 (n := 16) rfl (by kernel_rfl) (by exact (iv_length .u64 (payP p f t a)).trans hf40)) ?_
      refine wc_run (T' := [(3, .pointer (some ⟨b1, 0, none⟩)), (5, .pointer (some ⟨b3, 0, none⟩)), (62, .agg (iv .u64 (payP p f t a)).toArray), (63, .pointer (some ⟨b3, 1, none⟩))]) (L2 := (rng 2 13)) 1 [3, 5, 62, 63] (by kernel_rfl) ?_
      refine wc_ld (b := b3) (off := 1) (some 64) 3 (.int .i64 t) (by kernel_rfl) (Ld.ent1 H 2 rfl (by kernel_rfl) (by rfl)) ?_
      refine wc_run (T' := [(3, .pointer (some ⟨b1, 0, none⟩)), (5, .pointer (some ⟨b3, 0, none⟩)), (62, .agg (iv .u64 (payP p f t a)).toArray), (64, .int .i64 t), (65, .pointer (some ⟨b3, 0, none⟩))]) (L2 := (rng 4 11)) 1 [3, 5, 62, 64, 65] (by kernel_rfl) ?_
      refine wc_ld (b := b3) (off := 0) (some 66) 3 (.int .i64 f) (by kernel_rfl) (Ld.ent1 H 2 rfl (by kernel_rfl) (by rfl)) ?_
      refine wc_run (T' := [(3, .pointer (some ⟨b1, 0, none⟩)), (62, .agg (iv .u64 (payP p f t a)).toArray), (64, .int .i64 t), (66, .int .i64 f), (67, .pointer (some ⟨b3, 2, none⟩))]) (L2 := (rng 6 9)) 1 [3, 62, 64, 66, 67] (by kernel_rfl) ?_
      refine wc_ld (b := b3) (off := 2) (some 68) 22 (.int .u64 a) (by kernel_rfl) (Ld.ent1 H 2 rfl (by kernel_rfl) (by rfl)) ?_
      refine wc_run (T' := [(3, .pointer (some ⟨b1, 0, none⟩)), (62, .agg (iv .u64 (payP p f t a)).toArray), (69, .agg #[.int .i64 t, .int .i64 f, .int .u64 a])]) (L2 := (rng 8 7)) 1 [3, 62, 69] (by kernel_rfl) ?_
      refine wc_call (some 70) (by kernel_rfl) (ledger_Pay w44 (payP p f t a) t f a (by first | assumption | omega | (simp_all; done)) (by first | assumption | omega | (simp_all; done))) ?_
      rintro _ w48 ⟨rfl, H1, hf49, hf50⟩
      refine ⟨_, rfl, fun _ => H1.keep, ?_⟩
      replace H := H.call H1
      simp only [List.nil_append] at H
      refine wc_run (T' := [(3, .pointer (some ⟨b1, 0, none⟩)), (71, .agg (iv .u64 (payP (payP p f t a) t f a)).toArray), (72, .int .i64 (payE (payP p f t a) t f a))]) (L2 := (rng 12 3)) 3 [3, 71, 72] (by kernel_rfl) ?_
      refine wc_new H (some 15) (row (iv .u64 (List.replicate 16 0)) 24) (fun r => .pointer (some ⟨r, 0, none⟩)) (by kernel_rfl) (fun b51 w52 H => ?_)
      refine wc_st (b := b51) (off := 0) (Tb := 24) (vs := (iv .u64 (payP (payP p f t a) t f a))) (cs' := (iv .u64 (payP (payP p f t a) t f a))) H 0 24 (.agg (iv .u64 (payP (payP p f t a) t f a)).toArray) 16 (by kernel_rfl) rfl rfl (by exact (iv_length .u64 (payP (payP p f t a) t f a)).trans hf49) (by have h := (iv_length .u64 (List.replicate 16 0)).trans List.length_replicate; omega) (by exact iv_flat _ _) (by exact blit_all _ _ (((iv_length .u64 (payP (payP p f t a) t f a)).trans hf49).trans ((iv_length .u64 (List.replicate 16 0)).trans List.length_replicate).symm)) (fun w53 H => ?_)
      dsimp only [List.set] at H
      refine wc_run (T' := [(3, .pointer (some ⟨b1, 0, none⟩)), (15, .pointer (some ⟨b51, 0, none⟩)), (16, .int .i64 (payE (payP p f t a) t f a))]) (L2 := (rng 15 0)) 1 [3, 15, 16] (by kernel_rfl) ?_
      refine wc_nil rfl ?_
      refine n_sq ?_
      refine wn_seq (by kernel_rfl) ?_
      refine wn_reg 11 (by kernel_rfl) ?_
      refine wc_call (some 73) (by kernel_rfl) (proctorlaw19_anchored w53) ?_
      rintro _ w54 ⟨rfl, H1⟩
      refine ⟨_, rfl, fun _ => H1.keep, ?_⟩
      replace H := H.call H1
      simp only [List.nil_append] at H
      refine wc_run (T' := [(3, .pointer (some ⟨b1, 0, none⟩)), (15, .pointer (some ⟨b51, 0, none⟩)), (78, .bool ((payE (payP p f t a) t f a) == (0 : Int)))]) (L2 := (rng 6 5)) 5 [3, 15, 78] (by kernel_rfl) ?_
      rcases Bool.eq_false_or_eq_true ((payE (payP p f t a) t f a) == (0 : Int)) with hg55 | hg55
      · rw [hg55]
        have hg55 := eq_of_beq hg55
        refine wc_ld (b := b51) (off := 0) (some 79) 24 (.agg (iv .u64 (payP (payP p f t a) t f a)).toArray) (by kernel_rfl) (Ld.entW H 0 (n := 16) rfl (by kernel_rfl) (by exact (iv_length .u64 (payP (payP p f t a) t f a)).trans hf49)) ?_
        refine wc_ld (b := b1) (off := 0) (some 80) 24 (.agg (iv .u64 p).toArray) (by kernel_rfl) (Ld.entW H 4 (n := 16) rfl (by kernel_rfl) (by exact (iv_length .u64 p).trans hp)) ?_
        refine wc_eqA (c := decide ((payP (payP p f t a) t f a) = p)) 2 (some 81) 24 true (iv .u64 (payP (payP p f t a) t f a)) (iv .u64 p) (by kernel_rfl) (EqV.arrC (k := .u64) (n := 16) (by kernel_rfl) (payP (payP p f t a) t f a) p (by exact hf49) (by exact hp)) ?_
        refine wc_run (T' := [(6, .bool (decide ((payP (payP p f t a) t f a) = p)))]) (L2 := (rng 11 0)) 2 [6] (by kernel_rfl) ?_
        refine wc_nil rfl ?_
        refine n_sq ?_
        refine wn_ret (by kernel_rfl) ?_
        refine ret1 _ (Or.inr rfl) Try.results4 rfl ?_
        have he56 : true = decide ((payP (payP p f t a) t f a) = p) := by
          simp_all [zeros]
        exact ⟨by rw [he56], H.nil⟩
      · rw [hg55]
        have hg55 := ne_of_beq_false hg55
        refine wc_run (T' := [(6, .bool false)]) (L2 := (rng 11 0)) 5 [6] (by kernel_rfl) ?_
        refine wc_nil rfl ?_
        refine n_sq ?_
        refine wn_ret (by kernel_rfl) ?_
        refine ret1 _ (Or.inr rfl) Try.results4 rfl ?_
        have he57 : true = false := by
          simp_all [zeros]
        exact ⟨by rw [he57], H.nil⟩
end Go.Proofs.Ytfeecdcanjkohaa
