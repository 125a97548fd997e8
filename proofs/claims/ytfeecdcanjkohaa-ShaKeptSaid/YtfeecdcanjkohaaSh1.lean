/-
  Walks of some of this seat's functions: each call's answer, and what it leaves of memory. No condition beside those that stand in each theorem.
-/
import Derived.Test.YtfeecdcanjkohaaRows
import Derived.Test.YtfeecdcanjkohaaOps
set_option linter.all false
namespace Go.Proofs.Ytfeecdcanjkohaa
open Go.RowKit Go.Px

/-- So many rounds. -/
def itN {α : Type} (f : Nat → α → α) : Nat → α → α
  | 0, q => q
  | n + 1, q => f n (itN f n q)
def wdS (h : List Int) (j : Nat) (q : List Int) : List Int := q.set (j / 8) (bor .u64 (shlV .u64 (q.getD (j / 8) 0) 8) (h.getD j 0))
def wdF (m n : Nat) (h : List Int) : List Int := itN (wdS h) n (List.replicate m 0)
theorem wdF_length (m n : Nat) (h : List Int) : (wdF m n h).length = m := by
  unfold wdF
  induction n with
  | zero => simp [itN]
  | succ n ih => simp only [itN, wdS, List.length_set]; exact ih
def frS (w : List Int) (j : Nat) (q : List Int) : List Int := q.set j (IntKind.u8.wrap (shrV .u64 (w.getD (j / 8) 0) (56 - 8 * ((j : Int) % 8))))
def frF (m n : Nat) (w : List Int) : List Int := itN (frS w) n (List.replicate m 0)
theorem frF_length (m n : Nat) (w : List Int) : (frF m n w).length = m := by
  unfold frF
  induction n with
  | zero => simp [itN]
  | succ n ih => simp only [itN, frS, List.length_set]; exact ih
def mayM (k f t a n : Int) (x y : List Int) : Bool :=
  decide ((k = 1 ∧ f = 0 ∧ t < 32 ∧ 0 < a ∧ n = 0 ∧ x = List.replicate 32 0 ∧ y = List.replicate 32 0) ∨ (k = 2 ∧ f < 32 ∧ t < 32) ∨ (k = 3 ∧ f < 32 ∧ 0 < a))

def e8S (x : Int) (j : Nat) (q : List Int) : List Int := q ++ [IntKind.u8.wrap (shrV .u64 x (8 * (7 - (j : Int))))]
def ei8 (x : Int) : List Int := itN (e8S x) 8 []
theorem ei8_length (x : Int) : (ei8 x).length = 8 := by simp [ei8, itN, e8S]
def catS (w : List Int) (j : Nat) (q : List Int) : List Int := q ++ ei8 (w.getD j 0)
def wrR (w : List Int) (n : Nat) : List Int := itN (catS w) n []
theorem wrR_length (w : List Int) (n : Nat) : (wrR w n).length = 8 * n := by
  unfold wrR
  induction n with
  | zero => simp [itN]
  | succ n ih => simp only [itN, catS, List.length_append, ei8_length, ih]; omega
def wrM (k f t a n : Int) (x y : List Int) : List Int := if mayM k f t a n x y = true then wrR [k, f, t, a, n] 5 ++ x ++ y else []
def wrE (k f t a n : Int) (x y : List Int) : Int := if mayM k f t a n x y = true then 0 else 2
theorem wrM_len (k f t a n : Int) {x y : List Int} (hx : x.length = 32) (hy : y.length = 32) : (wrM k f t a n x y).length = if mayM k f t a n x y = true then 104 else 0 := by
  unfold wrM; split <;> simp [wrR_length, hx, hy]
def mwW (b : List Int) : List Int := if b.length = 104 then wdF 13 104 b else List.replicate 13 0
def mwE (b : List Int) : Int := if b.length < 104 then 7 else if 104 < b.length then 8 else 0
theorem mwW_length (b : List Int) : (mwW b).length = 13 := by unfold mwW; split <;> simp [wdF_length]

noncomputable def cd_sha_Words : Code := (Try.f44.body).getD .skip
theorem sha_Words (w : World) (h : List Int) (hh : h.length = 32) (hb : ∀ j, 0 ≤ h.getD j 0 ∧ h.getD j 0 < 256) :
    Calls Try.prog 44 #[.agg (iv .u8 h).toArray] w (fun e w' => e = .returned (.agg (iv .u64 (wdF 4 32 h)).toArray) ∧ Hp no w w' [] ∧ (wdF 4 32 h).length = 4) := by
  refine enter (args := [_]) (c := cd_sha_Words) (N := 24) Try.func44 (by kernel_rfl) (by kernel_rfl) (by simp) ?_
  have H := Hp.start w
  refine wn_seq (by kernel_rfl) ?_
  refine wn_reg 2 (by kernel_rfl) ?_
  refine wc_new H (some 1) (row (iv .u8 h) 47) (fun r => .pointer (some ⟨r, 0, none⟩)) (by kernel_rfl) (fun b1 w2 H => ?_)
  refine wc_new H (some 2) (row (iv .u64 (List.replicate 4 0)) 73) (fun r => .pointer (some ⟨r, 0, none⟩)) (by kernel_rfl) (fun b3 w4 H => ?_)
  refine wc_nil rfl ?_
  refine n_sq ?_
  refine wn_seq (by kernel_rfl) ?_
  refine wn_reg 1 (by kernel_rfl) ?_
  refine wc_new H (some 3) (row (iv .u64 (List.replicate 4 0)) 73) (fun r => .pointer (some ⟨r, 0, none⟩)) (by kernel_rfl) (fun b5 w6 H => ?_)
  refine wc_nil rfl ?_
  refine n_sq ?_
  refine wn_seq (by kernel_rfl) ?_
  refine wn_seq (by kernel_rfl) ?_
  refine wn_reg 2 (by kernel_rfl) ?_
  refine wc_ld (b := b1) (off := 0) (some 6) 47 (.agg (iv .u8 h).toArray) (by kernel_rfl) (Ld.entW H 2 (n := 32) rfl (by kernel_rfl) (by exact (iv_length .u8 h).trans hh)) ?_
  refine wc_run (T' := [(2, .pointer (some ⟨b3, 0, none⟩)), (3, .pointer (some ⟨b5, 0, none⟩)), (6, .agg (iv .u8 h).toArray), (7, .int .i64 0)]) (L2 := (rng 2 0)) 1 [2, 3, 6, 7] (by kernel_rfl) ?_
  refine wc_nil rfl ?_
  refine n_sq ?_
  refine wn_block 0 (by kernel_rfl) ?_
  refine wn_loop (fun ((i, q) : Int × List Int) => [(2, .pointer (some ⟨b3, 0, none⟩)), (3, .pointer (some ⟨b5, 0, none⟩)), (6, .agg (iv .u8 h).toArray), (7, .int .i64 i)]) (fun ((i, q) : Int × List Int) w' => Hp no w w' [.bk b5 (row (iv .u64 q) 73), .bk b3 (row (iv .u64 (List.replicate 4 0)) 73), .bk b1 (row (iv .u8 h) 47)] ∧ 0 ≤ i ∧ i ≤ 32 ∧ q.length = 4 ∧ q = itN (wdS h) i.toNat (List.replicate 4 0)) (fun ((i, q) : Int × List Int) => (32 - i).toNat) ((0 : Int), (List.replicate 4 0)) [2, 3, 6, 7] (by kernel_rfl) rfl ⟨H, by simp [itN]⟩ ?_
  rintro ⟨i, q⟩ w7 ⟨H, hi⟩
  try dsimp only at H hi
  refine wn_pick (T' := [(2, .pointer (some ⟨b3, 0, none⟩)), (3, .pointer (some ⟨b5, 0, none⟩)), (6, .agg (iv .u8 h).toArray), (7, .int .i64 i)]) [2, 3, 6, 7] (by kernel_rfl) ?_
  have hx := hb i.toNat
  refine wn_seq (by kernel_rfl) ?_
  refine wn_reg 1 (by kernel_rfl) ?_
  refine wc_run (T' := [(2, .pointer (some ⟨b3, 0, none⟩)), (3, .pointer (some ⟨b5, 0, none⟩)), (6, .agg (iv .u8 h).toArray), (7, .int .i64 i), (8, .bool (decide (i < (32 : Int))))]) (L2 := (rng 1 0)) 1 [2, 3, 6, 7, 8] (by kernel_rfl) ?_
  refine wc_nil rfl ?_
  refine n_sq ?_
  refine wn_seq (by kernel_rfl) ?_
  refine wn_cond (.tmp 8) (decide (i < (32 : Int))) (by kernel_rfl) rfl (fun hc8 => ?_) (fun hc8 => ?_)
  · have hc8 := of_decide_eq_true hc8
    refine wn_skip (by kernel_rfl) ?_
    refine n_sq ?_
    refine wn_seq (by kernel_rfl) ?_
    refine wn_block 1 (by kernel_rfl) ?_
    refine wn_seq (by kernel_rfl) ?_
    refine wn_reg 4 (by kernel_rfl) ?_
    refine wc_run (T' := [(2, .pointer (some ⟨b3, 0, none⟩)), (3, .pointer (some ⟨b5, 0, none⟩)), (6, .agg (iv .u8 h).toArray), (7, .int .i64 i), (9, .int .i64 i)]) (L2 := (rng 1 3)) 1 [2, 3, 6, 7, 9] (by kernel_rfl) ?_
    refine wc_iv (cs := (iv .u8 h)) (some 10) 5 32 1 i (.int .u8 (h.getD (i).toNat 0)) (by kernel_rfl) (by kernel_rfl) (by omega) (by omega) (Or.inl ⟨by kernel_rfl, by rw [Nat.mul_one]; exact iv_get (by have h : h.length = _ := hh; omega)⟩) ?_
    refine wc_run (T' := [(2, .pointer (some ⟨b3, 0, none⟩)), (3, .pointer (some ⟨b5, 0, none⟩)), (4, .int .i64 i), (5, .int .u8 (h.getD (i).toNat 0)), (6, .agg (iv .u8 h).toArray), (7, .int .i64 i)]) (L2 := (rng 4 0)) 2 [2, 3, 4, 5, 6, 7] (by kernel_rfl) ?_
    refine wc_nil rfl ?_
    refine n_sq ?_
    refine wn_reg 12 (by kernel_rfl) ?_
    refine wc_run (T' := [(2, .pointer (some ⟨b3, 0, none⟩)), (3, .pointer (some ⟨b5, 0, none⟩)), (4, .int .i64 i), (5, .int .u8 (h.getD (i).toNat 0)), (6, .agg (iv .u8 h).toArray), (7, .int .i64 i), (12, .int .i64 (IntKind.i64.wrap (i.tdiv 8)))]) (L2 := (rng 2 10)) 2 [2, 3, 4, 5, 6, 7, 12] (by kernel_rfl) ?_
    rw [Int.tdiv_eq_ediv_of_nonneg (a := i) (b := 8) (by first | omega | (simp only [List.length_append, List.length_cons, List.length_nil, List.length_set, List.length_replicate, List.length_drop, List.length_take, iv_length, Nat.zero_add] at * <;> omega))]
    rw [wi64 (x := i / 8) (by first | omega | (simp only [List.length_append, List.length_cons, List.length_nil, List.length_set, List.length_replicate, List.length_drop, List.length_take, iv_length, Nat.zero_add] at * <;> omega)) (by first | omega | (simp only [List.length_append, List.length_cons, List.length_nil, List.length_set, List.length_replicate, List.length_drop, List.length_take, iv_length, Nat.zero_add] at * <;> omega))]
    refine wc_run (T' := [(2, .pointer (some ⟨b3, 0, none⟩)), (3, .pointer (some ⟨b5, 0, none⟩)), (5, .int .u8 (h.getD (i).toNat 0)), (6, .agg (iv .u8 h).toArray), (7, .int .i64 i), (12, .int .i64 (i / 8)), (14, .int .i64 (IntKind.i64.wrap (i.tdiv 8)))]) (L2 := (rng 4 8)) 2 [2, 3, 5, 6, 7, 12, 14] (by kernel_rfl) ?_
    rw [Int.tdiv_eq_ediv_of_nonneg (a := i) (b := 8) (by first | omega | (simp only [List.length_append, List.length_cons, List.length_nil, List.length_set, List.length_replicate, List.length_drop, List.length_take, iv_length, Nat.zero_add] at * <;> omega))]
    rw [wi64 (x := i / 8) (by first | omega | (simp only [List.length_append, List.length_cons, List.length_nil, List.length_set, List.length_replicate, List.length_drop, List.length_take, iv_length, Nat.zero_add] at * <;> omega)) (by first | omega | (simp only [List.length_append, List.length_cons, List.length_nil, List.length_set, List.length_replicate, List.length_drop, List.length_take, iv_length, Nat.zero_add] at * <;> omega))]
    refine wc_ix (b := b5) (off := 0) (o' := (i / 8).toNat) (some 15) (some ⟨b5, 0, none⟩) 4 1 (i / 8) (by kernel_rfl) rfl (by omega) (by omega) (by omega) ?_
    refine wc_ld (b := b5) (off := (i / 8).toNat) (some 16) 22 (.int .u64 (q.getD ((i / 8).toNat) 0)) (by kernel_rfl) (Ld.ent1 H 0 rfl (by kernel_rfl) (iv_get (by first | (simp only [iv_length, List.length_set, List.length_replicate, *]; done) | (simp [iv_length, *]; done) | (simp [Value.cells, iv_length, *]; done) | omega | (simp [Value.cells, iv_length] <;> omega)))) ?_
    refine wc_run (T' := [(2, .pointer (some ⟨b3, 0, none⟩)), (3, .pointer (some ⟨b5, 0, none⟩)), (6, .agg (iv .u8 h).toArray), (7, .int .i64 i), (12, .int .i64 (i / 8)), (17, .int .u64 (shlV .u64 (q.getD ((i / 8).toNat) 0) 8)), (19, .int .u64 (IntKind.u64.wrap (h.getD (i).toNat 0)))]) (L2 := (rng 9 3)) 3 [2, 3, 6, 7, 12, 17, 19] (by kernel_rfl) ?_
    rw [wu64 (x := h.getD (i).toNat 0) (by first | omega | (simp only [List.length_append, List.length_cons, List.length_nil, List.length_set, List.length_replicate, List.length_drop, List.length_take, iv_length, Nat.zero_add] at * <;> omega)) (by first | omega | (simp only [List.length_append, List.length_cons, List.length_nil, List.length_set, List.length_replicate, List.length_drop, List.length_take, iv_length, Nat.zero_add] at * <;> omega))]
    refine wc_run (T' := [(2, .pointer (some ⟨b3, 0, none⟩)), (3, .pointer (some ⟨b5, 0, none⟩)), (6, .agg (iv .u8 h).toArray), (7, .int .i64 i), (12, .int .i64 (i / 8)), (20, .int .u64 (bor .u64 (shlV .u64 (q.getD ((i / 8).toNat) 0) 8) (h.getD (i).toNat 0)))]) (L2 := (rng 10 2)) 1 [2, 3, 6, 7, 12, 20] (by kernel_rfl) ?_
    refine wc_ix (b := b5) (off := 0) (o' := (i / 8).toNat) (some 21) (some ⟨b5, 0, none⟩) 4 1 (i / 8) (by kernel_rfl) rfl (by omega) (by omega) (by omega) ?_
    refine wc_st (b := b5) (off := (i / 8).toNat) (Tb := 73) (vs := ([.int .u64 (bor .u64 (shlV .u64 (q.getD ((i / 8).toNat) 0) 8) (h.getD (i).toNat 0))])) (cs' := (iv .u64 (q.set ((i / 8).toNat) (bor .u64 (shlV .u64 (q.getD ((i / 8).toNat) 0) 8) (h.getD (i).toNat 0))))) H 0 22 (.int .u64 (bor .u64 (shlV .u64 (q.getD ((i / 8).toNat) 0) 8) (h.getD (i).toNat 0))) 1 (by kernel_rfl) rfl rfl (by rfl) (by first | (simp only [iv_length, List.length_set, List.length_replicate, *]; done) | (simp [iv_length, *]; done) | (simp [Value.cells, iv_length, *]; done) | omega | (simp [Value.cells, iv_length] <;> omega)) (by simp [Value.oneCell']) (by exact iv_set _ _ _ _ (by first | (simp only [iv_length, List.length_set, List.length_replicate, *]; done) | (simp [iv_length, *]; done) | (simp [Value.cells, iv_length, *]; done) | omega | (simp [Value.cells, iv_length] <;> omega))) (fun w9 H => ?_)
    dsimp only [List.set] at H
    refine wc_nil rfl ?_
    refine n_blk ?_
    refine n_sq ?_
    refine wn_reg 2 (by kernel_rfl) ?_
    refine wc_run (T' := [(2, .pointer (some ⟨b3, 0, none⟩)), (3, .pointer (some ⟨b5, 0, none⟩)), (6, .agg (iv .u8 h).toArray), (22, .int .i64 (IntKind.i64.wrap (i + 1)))]) (L2 := (rng 1 1)) 1 [2, 3, 6, 22] (by kernel_rfl) ?_
    rw [wi64 (x := i + 1) (by first | omega | (simp only [List.length_append, List.length_cons, List.length_nil, List.length_set, List.length_replicate, List.length_drop, List.length_take, iv_length, Nat.zero_add] at * <;> omega)) (by first | omega | (simp only [List.length_append, List.length_cons, List.length_nil, List.length_set, List.length_replicate, List.length_drop, List.length_take, iv_length, Nat.zero_add] at * <;> omega))]
    refine wc_run (T' := [(2, .pointer (some ⟨b3, 0, none⟩)), (3, .pointer (some ⟨b5, 0, none⟩)), (6, .agg (iv .u8 h).toArray), (7, .int .i64 (i + 1))]) (L2 := (rng 2 0)) 1 [2, 3, 6, 7] (by kernel_rfl) ?_
    refine wc_nil rfl ?_
    refine round_end (i + 1, q.set ((i / 8).toNat) (bor .u64 (shlV .u64 (q.getD ((i / 8).toNat) 0) 8) (h.getD (i).toNat 0))) [2, 3, 6, 7] (by kernel_rfl) ⟨H, ?_⟩ ?_
    · obtain ⟨h1, h2, h3, h4⟩ := hi
      have e1 : (i + 1).toNat = i.toNat + 1 := by omega
      have e2 : (i / 8).toNat = i.toNat / 8 := by omega
      refine ⟨by omega, by omega, by simp [h3], ?_⟩
      rw [e1, e2, itN, wdS, ← h4]
    · first | omega | (dsimp only; omega)
  · have hc8 := of_decide_eq_false hc8
    refine wn_exit 0 (by kernel_rfl) ?_
    refine e_sq ?_
    refine e_then ?_
    refine e_blk ?_
    refine n_sq ?_
    refine wn_seq (by kernel_rfl) ?_
    refine wn_reg 2 (by kernel_rfl) ?_
    refine wc_ld (b := b5) (off := 0) (some 23) 73 (.agg (iv .u64 q).toArray) (by kernel_rfl) (Ld.entW H 0 (n := 4) rfl (by kernel_rfl) (by first | (simp only [iv_length, List.length_set, List.length_replicate, *]; done) | (simp [iv_length, *]; done) | (simp [Value.cells, iv_length, *]; done) | omega | (simp [Value.cells, iv_length] <;> omega))) ?_
    refine wc_st (b := b3) (off := 0) (Tb := 73) (vs := (iv .u64 q)) (cs' := (iv .u64 q)) H 1 73 (.agg (iv .u64 q).toArray) 4 (by kernel_rfl) rfl rfl (by first | (simp only [iv_length, List.length_set, List.length_replicate, *]; done) | (simp [iv_length, *]; done) | (simp [Value.cells, iv_length, *]; done) | omega | (simp [Value.cells, iv_length] <;> omega)) (by have h := (iv_length .u64 (List.replicate 4 0)).trans List.length_replicate; omega) (by exact iv_flat _ _) (by first | rfl | exact blit_all _ _ (by first | (simp only [iv_length, List.length_set, List.length_replicate, *]; done) | (simp [iv_length, *]; done) | (simp [Value.cells, iv_length, *]; done) | omega | (simp [Value.cells, iv_length] <;> omega)) | (simp [blit, List.drop_append, List.take_append, iv_length, *]; done)) (fun w10 H => ?_)
    dsimp only [List.set] at H
    refine wc_nil rfl ?_
    refine n_sq ?_
    refine wn_ret (by kernel_rfl) ?_
    refine ret1 _ (Or.inr rfl) Try.results44 ⟨_, _, rfl, Ld.entW H 1 (n := 4) rfl (by kernel_rfl) (by first | (simp only [iv_length, List.length_set, List.length_replicate, *]; done) | (simp [iv_length, *]; done) | (simp [Value.cells, iv_length, *]; done) | omega | (simp [Value.cells, iv_length] <;> omega))⟩ ?_
    have he11 : wdF 4 32 h = q := by
      obtain ⟨h1, h2, h3, h4⟩ := hi
      have e : i.toNat = 32 := by omega
      rw [h4, e, wdF]
    exact ⟨by first | (rw [he11]; done) | (rw [he11]; rfl), H.nil, by exact wdF_length _ _ _⟩

noncomputable def cd_proctorref01_Words : Code := (Try.f45.body).getD .skip
theorem proctorref01_Words (w : World) (h : List Int) (hh : h.length = 32) (hb : ∀ j, 0 ≤ h.getD j 0 ∧ h.getD j 0 < 256) :
    Calls Try.prog 45 #[.agg (iv .u8 h).toArray] w (fun e w' => e = .returned (.agg (iv .u64 (wdF 4 32 h)).toArray) ∧ Hp no w w' [] ∧ (wdF 4 32 h).length = 4) := by
  refine enter (args := [_]) (c := cd_proctorref01_Words) (N := 23) Try.func45 (by kernel_rfl) (by kernel_rfl) (by simp) ?_
  have H := Hp.start w
  refine wn_seq (by kernel_rfl) ?_
  refine wn_reg 2 (by kernel_rfl) ?_
  refine wc_new H (some 1) (row (iv .u8 h) 47) (fun r => .pointer (some ⟨r, 0, none⟩)) (by kernel_rfl) (fun b1 w2 H => ?_)
  refine wc_new H (some 2) (row (iv .u64 (List.replicate 4 0)) 73) (fun r => .pointer (some ⟨r, 0, none⟩)) (by kernel_rfl) (fun b3 w4 H => ?_)
  refine wc_nil rfl ?_
  refine n_sq ?_
  refine wn_seq (by kernel_rfl) ?_
  refine wn_reg 1 (by kernel_rfl) ?_
  refine wc_new H (some 3) (row (iv .u64 (List.replicate 4 0)) 73) (fun r => .pointer (some ⟨r, 0, none⟩)) (by kernel_rfl) (fun b5 w6 H => ?_)
  refine wc_nil rfl ?_
  refine n_sq ?_
  refine wn_seq (by kernel_rfl) ?_
  refine wn_seq (by kernel_rfl) ?_
  refine wn_reg 1 (by kernel_rfl) ?_
  refine wc_run (T' := [(1, .pointer (some ⟨b1, 0, none⟩)), (2, .pointer (some ⟨b3, 0, none⟩)), (3, .pointer (some ⟨b5, 0, none⟩)), (4, .int .i64 0)]) (L2 := (rng 1 0)) 1 [1, 2, 3, 4] (by kernel_rfl) ?_
  refine wc_nil rfl ?_
  refine n_sq ?_
  refine wn_block 0 (by kernel_rfl) ?_
  refine wn_loop (fun ((i, q) : Int × List Int) => [(1, .pointer (some ⟨b1, 0, none⟩)), (2, .pointer (some ⟨b3, 0, none⟩)), (3, .pointer (some ⟨b5, 0, none⟩)), (4, .int .i64 i)]) (fun ((i, q) : Int × List Int) w' => Hp no w w' [.bk b5 (row (iv .u64 q) 73), .bk b3 (row (iv .u64 (List.replicate 4 0)) 73), .bk b1 (row (iv .u8 h) 47)] ∧ 0 ≤ i ∧ i ≤ 32 ∧ q.length = 4 ∧ q = itN (wdS h) i.toNat (List.replicate 4 0)) (fun ((i, q) : Int × List Int) => (32 - i).toNat) ((0 : Int), (List.replicate 4 0)) [1, 2, 3, 4] (by kernel_rfl) rfl ⟨H, by simp [itN]⟩ ?_
  rintro ⟨i, q⟩ w7 ⟨H, hi⟩
  try dsimp only at H hi
  refine wn_pick (T' := [(1, .pointer (some ⟨b1, 0, none⟩)), (2, .pointer (some ⟨b3, 0, none⟩)), (3, .pointer (some ⟨b5, 0, none⟩)), (4, .int .i64 i)]) [1, 2, 3, 4] (by kernel_rfl) ?_
  have hx := hb i.toNat
  refine wn_seq (by kernel_rfl) ?_
  refine wn_seq (by kernel_rfl) ?_
  refine wn_reg 2 (by kernel_rfl) ?_
  refine wc_run (T' := [(1, .pointer (some ⟨b1, 0, none⟩)), (2, .pointer (some ⟨b3, 0, none⟩)), (3, .pointer (some ⟨b5, 0, none⟩)), (4, .int .i64 i), (6, .bool (decide (i < (32 : Int))))]) (L2 := (rng 2 0)) 2 [1, 2, 3, 4, 6] (by kernel_rfl) ?_
  refine wc_nil rfl ?_
  refine n_sq ?_
  refine wn_cond (.tmp 6) (decide (i < (32 : Int))) (by kernel_rfl) rfl (fun hc8 => ?_) (fun hc8 => ?_)
  · have hc8 := of_decide_eq_true hc8
    refine wn_skip (by kernel_rfl) ?_
    refine n_sq ?_
    refine wn_seq (by kernel_rfl) ?_
    refine wn_block 1 (by kernel_rfl) ?_
    refine wn_regD [] (ol [0, 1, 2, 3, 4, 5, 6, 7, 8, 9, 10, 11, 12, 13]) (by kernel_rfl) H (fun w9 H => ?_)
    refine wc_run (T' := [(1, .pointer (some ⟨b1, 0, none⟩)), (2, .pointer (some ⟨b3, 0, none⟩)), (3, .pointer (some ⟨b5, 0, none⟩)), (4, .int .i64 i), (10, .int .i64 (IntKind.i64.wrap (i.tdiv 8)))]) (L2 := (ol [2, 3, 4, 5, 6, 7, 8, 9, 10, 11, 12, 13])) 2 [1, 2, 3, 4, 10] (by kernel_rfl) ?_
    rw [Int.tdiv_eq_ediv_of_nonneg (a := i) (b := 8) (by first | omega | (simp only [List.length_append, List.length_cons, List.length_nil, List.length_set, List.length_replicate, List.length_drop, List.length_take, iv_length, Nat.zero_add] at * <;> omega))]
    rw [wi64 (x := i / 8) (by first | omega | (simp only [List.length_append, List.length_cons, List.length_nil, List.length_set, List.length_replicate, List.length_drop, List.length_take, iv_length, Nat.zero_add] at * <;> omega)) (by first | omega | (simp only [List.length_append, List.length_cons, List.length_nil, List.length_set, List.length_replicate, List.length_drop, List.length_take, iv_length, Nat.zero_add] at * <;> omega))]
    refine wc_run (T' := [(1, .pointer (some ⟨b1, 0, none⟩)), (2, .pointer (some ⟨b3, 0, none⟩)), (3, .pointer (some ⟨b5, 0, none⟩)), (4, .int .i64 i), (10, .int .i64 (i / 8)), (12, .int .i64 (IntKind.i64.wrap (i.tdiv 8)))]) (L2 := (ol [4, 5, 6, 7, 8, 9, 10, 11, 12, 13])) 2 [1, 2, 3, 4, 10, 12] (by kernel_rfl) ?_
    rw [Int.tdiv_eq_ediv_of_nonneg (a := i) (b := 8) (by first | omega | (simp only [List.length_append, List.length_cons, List.length_nil, List.length_set, List.length_replicate, List.length_drop, List.length_take, iv_length, Nat.zero_add] at * <;> omega))]
    rw [wi64 (x := i / 8) (by first | omega | (simp only [List.length_append, List.length_cons, List.length_nil, List.length_set, List.length_replicate, List.length_drop, List.length_take, iv_length, Nat.zero_add] at * <;> omega)) (by first | omega | (simp only [List.length_append, List.length_cons, List.length_nil, List.length_set, List.length_replicate, List.length_drop, List.length_take, iv_length, Nat.zero_add] at * <;> omega))]
    refine wc_ix (b := b5) (off := 0) (o' := (i / 8).toNat) (some 13) (some ⟨b5, 0, none⟩) 4 1 (i / 8) (by kernel_rfl) rfl (by omega) (by omega) (by omega) ?_
    refine wc_ld (b := b5) (off := (i / 8).toNat) (some 14) 22 (.int .u64 (q.getD ((i / 8).toNat) 0)) (by kernel_rfl) (Ld.ent1 H 0 rfl (by kernel_rfl) (iv_get (by first | (simp only [iv_length, List.length_set, List.length_replicate, *]; done) | (simp [iv_length, *]; done) | (simp [Value.cells, iv_length, *]; done) | omega | (simp [Value.cells, iv_length] <;> omega)))) ?_
    refine wc_run (T' := [(1, .pointer (some ⟨b1, 0, none⟩)), (2, .pointer (some ⟨b3, 0, none⟩)), (3, .pointer (some ⟨b5, 0, none⟩)), (4, .int .i64 i), (10, .int .i64 (i / 8)), (15, .int .u64 (shlV .u64 (q.getD ((i / 8).toNat) 0) 8)), (16, .int .i64 i)]) (L2 := (ol [8, 9, 10, 11, 12, 13])) 2 [1, 2, 3, 4, 10, 15, 16] (by kernel_rfl) ?_
    refine wc_ix (b := b1) (off := 0) (o' := i.toNat) (some 17) (some ⟨b1, 0, none⟩) 32 1 i (by kernel_rfl) rfl (by omega) (by omega) (by omega) ?_
    refine wc_ld (b := b1) (off := i.toNat) (some 18) 5 (.int .u8 (h.getD i.toNat 0)) (by kernel_rfl) (Ld.ent1 H 2 rfl (by kernel_rfl) (iv_get (by have h : h.length = _ := hh; omega))) ?_
    refine wc_run (T' := [(1, .pointer (some ⟨b1, 0, none⟩)), (2, .pointer (some ⟨b3, 0, none⟩)), (3, .pointer (some ⟨b5, 0, none⟩)), (4, .int .i64 i), (10, .int .i64 (i / 8)), (15, .int .u64 (shlV .u64 (q.getD ((i / 8).toNat) 0) 8)), (19, .int .u64 (IntKind.u64.wrap (h.getD i.toNat 0)))]) (L2 := (ol [11, 12, 13])) 1 [1, 2, 3, 4, 10, 15, 19] (by kernel_rfl) ?_
    rw [wu64 (x := h.getD i.toNat 0) (by first | omega | (simp only [List.length_append, List.length_cons, List.length_nil, List.length_set, List.length_replicate, List.length_drop, List.length_take, iv_length, Nat.zero_add] at * <;> omega)) (by first | omega | (simp only [List.length_append, List.length_cons, List.length_nil, List.length_set, List.length_replicate, List.length_drop, List.length_take, iv_length, Nat.zero_add] at * <;> omega))]
    refine wc_run (T' := [(1, .pointer (some ⟨b1, 0, none⟩)), (2, .pointer (some ⟨b3, 0, none⟩)), (3, .pointer (some ⟨b5, 0, none⟩)), (4, .int .i64 i), (10, .int .i64 (i / 8)), (20, .int .u64 (bor .u64 (shlV .u64 (q.getD ((i / 8).toNat) 0) 8) (h.getD i.toNat 0)))]) (L2 := (ol [12, 13])) 1 [1, 2, 3, 4, 10, 20] (by kernel_rfl) ?_
    refine wc_ix (b := b5) (off := 0) (o' := (i / 8).toNat) (some 21) (some ⟨b5, 0, none⟩) 4 1 (i / 8) (by kernel_rfl) rfl (by omega) (by omega) (by omega) ?_
    refine wc_st (b := b5) (off := (i / 8).toNat) (Tb := 73) (vs := ([.int .u64 (bor .u64 (shlV .u64 (q.getD ((i / 8).toNat) 0) 8) (h.getD i.toNat 0))])) (cs' := (iv .u64 (q.set ((i / 8).toNat) (bor .u64 (shlV .u64 (q.getD ((i / 8).toNat) 0) 8) (h.getD i.toNat 0))))) H 0 22 (.int .u64 (bor .u64 (shlV .u64 (q.getD ((i / 8).toNat) 0) 8) (h.getD i.toNat 0))) 1 (by kernel_rfl) rfl rfl (by rfl) (by first | (simp only [iv_length, List.length_set, List.length_replicate, *]; done) | (simp [iv_length, *]; done) | (simp [Value.cells, iv_length, *]; done) | omega | (simp [Value.cells, iv_length] <;> omega)) (by simp [Value.oneCell']) (by exact iv_set _ _ _ _ (by first | (simp only [iv_length, List.length_set, List.length_replicate, *]; done) | (simp [iv_length, *]; done) | (simp [Value.cells, iv_length, *]; done) | omega | (simp [Value.cells, iv_length] <;> omega))) (fun w10 H => ?_)
    dsimp only [List.set] at H
    refine wc_nil rfl ?_
    refine n_np ?_
    refine n_blk ?_
    refine n_sq ?_
    refine wn_reg 3 (by kernel_rfl) ?_
    refine wc_run (T' := [(1, .pointer (some ⟨b1, 0, none⟩)), (2, .pointer (some ⟨b3, 0, none⟩)), (3, .pointer (some ⟨b5, 0, none⟩)), (8, .int .i64 (IntKind.i64.wrap (i + 1)))]) (L2 := (rng 2 1)) 2 [1, 2, 3, 8] (by kernel_rfl) ?_
    rw [wi64 (x := i + 1) (by first | omega | (simp only [List.length_append, List.length_cons, List.length_nil, List.length_set, List.length_replicate, List.length_drop, List.length_take, iv_length, Nat.zero_add] at * <;> omega)) (by first | omega | (simp only [List.length_append, List.length_cons, List.length_nil, List.length_set, List.length_replicate, List.length_drop, List.length_take, iv_length, Nat.zero_add] at * <;> omega))]
    refine wc_run (T' := [(1, .pointer (some ⟨b1, 0, none⟩)), (2, .pointer (some ⟨b3, 0, none⟩)), (3, .pointer (some ⟨b5, 0, none⟩)), (4, .int .i64 (i + 1))]) (L2 := (rng 3 0)) 1 [1, 2, 3, 4] (by kernel_rfl) ?_
    refine wc_nil rfl ?_
    refine round_end (i + 1, q.set ((i / 8).toNat) (bor .u64 (shlV .u64 (q.getD ((i / 8).toNat) 0) 8) (h.getD i.toNat 0))) [1, 2, 3, 4] (by kernel_rfl) ⟨H, ?_⟩ ?_
    · obtain ⟨h1, h2, h3, h4⟩ := hi
      have e1 : (i + 1).toNat = i.toNat + 1 := by omega
      have e2 : (i / 8).toNat = i.toNat / 8 := by omega
      refine ⟨by omega, by omega, by simp [h3], ?_⟩
      rw [e1, e2, itN, wdS, ← h4]
    · first | omega | (dsimp only; omega)
  · have hc8 := of_decide_eq_false hc8
    refine wn_exit 0 (by kernel_rfl) ?_
    refine e_sq ?_
    refine e_then ?_
    refine e_blk ?_
    refine n_sq ?_
    refine wn_seq (by kernel_rfl) ?_
    refine wn_reg 2 (by kernel_rfl) ?_
    refine wc_ld (b := b5) (off := 0) (some 22) 73 (.agg (iv .u64 q).toArray) (by kernel_rfl) (Ld.entW H 0 (n := 4) rfl (by kernel_rfl) (by first | (simp only [iv_length, List.length_set, List.length_replicate, *]; done) | (simp [iv_length, *]; done) | (simp [Value.cells, iv_length, *]; done) | omega | (simp [Value.cells, iv_length] <;> omega))) ?_
    refine wc_st (b := b3) (off := 0) (Tb := 73) (vs := (iv .u64 q)) (cs' := (iv .u64 q)) H 1 73 (.agg (iv .u64 q).toArray) 4 (by kernel_rfl) rfl rfl (by first | (simp only [iv_length, List.length_set, List.length_replicate, *]; done) | (simp [iv_length, *]; done) | (simp [Value.cells, iv_length, *]; done) | omega | (simp [Value.cells, iv_length] <;> omega)) (by have h := (iv_length .u64 (List.replicate 4 0)).trans List.length_replicate; omega) (by exact iv_flat _ _) (by first | rfl | exact blit_all _ _ (by first | (simp only [iv_length, List.length_set, List.length_replicate, *]; done) | (simp [iv_length, *]; done) | (simp [Value.cells, iv_length, *]; done) | omega | (simp [Value.cells, iv_length] <;> omega)) | (simp [blit, List.drop_append, List.take_append, iv_length, *]; done)) (fun w11 H => ?_)
    dsimp only [List.set] at H
    refine wc_nil rfl ?_
    refine n_sq ?_
    refine wn_ret (by kernel_rfl) ?_
    refine ret1 _ (Or.inr rfl) Try.results45 ⟨_, _, rfl, Ld.entW H 1 (n := 4) rfl (by kernel_rfl) (by first | (simp only [iv_length, List.length_set, List.length_replicate, *]; done) | (simp [iv_length, *]; done) | (simp [Value.cells, iv_length, *]; done) | omega | (simp [Value.cells, iv_length] <;> omega))⟩ ?_
    have he12 : wdF 4 32 h = q := by
      obtain ⟨h1, h2, h3, h4⟩ := hi
      have e : i.toNat = 32 := by omega
      rw [h4, e, wdF]
    exact ⟨by first | (rw [he12]; done) | (rw [he12]; rfl), H.nil, by exact wdF_length _ _ _⟩

noncomputable def cd_sha_From : Code := (Try.f46.body).getD .skip
theorem sha_From (w : World) (h : List Int) (hh : h.length = 4) :
    Calls Try.prog 46 #[.agg (iv .u64 h).toArray] w (fun e w' => e = .returned (.agg (iv .u8 (frF 32 32 h)).toArray) ∧ Hp no w w' [] ∧ (frF 32 32 h).length = 32) := by
  refine enter (args := [_]) (c := cd_sha_From) (N := 22) Try.func46 (by kernel_rfl) (by kernel_rfl) (by simp) ?_
  have H := Hp.start w
  refine wn_seq (by kernel_rfl) ?_
  refine wn_reg 2 (by kernel_rfl) ?_
  refine wc_new H (some 1) (row (iv .u64 h) 73) (fun r => .pointer (some ⟨r, 0, none⟩)) (by kernel_rfl) (fun b1 w2 H => ?_)
  refine wc_new H (some 2) (row (iv .u8 (List.replicate 32 0)) 47) (fun r => .pointer (some ⟨r, 0, none⟩)) (by kernel_rfl) (fun b3 w4 H => ?_)
  refine wc_nil rfl ?_
  refine n_sq ?_
  refine wn_seq (by kernel_rfl) ?_
  refine wn_reg 1 (by kernel_rfl) ?_
  refine wc_new H (some 3) (row (iv .u8 (List.replicate 32 0)) 47) (fun r => .pointer (some ⟨r, 0, none⟩)) (by kernel_rfl) (fun b5 w6 H => ?_)
  refine wc_nil rfl ?_
  refine n_sq ?_
  refine wn_seq (by kernel_rfl) ?_
  refine wn_seq (by kernel_rfl) ?_
  refine wn_reg 1 (by kernel_rfl) ?_
  refine wc_run (T' := [(1, .pointer (some ⟨b1, 0, none⟩)), (2, .pointer (some ⟨b3, 0, none⟩)), (3, .pointer (some ⟨b5, 0, none⟩)), (5, .int .i64 0)]) (L2 := (rng 1 0)) 1 [1, 2, 3, 5] (by kernel_rfl) ?_
  refine wc_nil rfl ?_
  refine n_sq ?_
  refine wn_block 0 (by kernel_rfl) ?_
  refine wn_loop (fun ((i, q) : Int × List Int) => [(1, .pointer (some ⟨b1, 0, none⟩)), (2, .pointer (some ⟨b3, 0, none⟩)), (3, .pointer (some ⟨b5, 0, none⟩)), (5, .int .i64 i)]) (fun ((i, q) : Int × List Int) w' => Hp no w w' [.bk b5 (row (iv .u8 q) 47), .bk b3 (row (iv .u8 (List.replicate 32 0)) 47), .bk b1 (row (iv .u64 h) 73)] ∧ 0 ≤ i ∧ i ≤ 32 ∧ q.length = 32 ∧ q = itN (frS h) i.toNat (List.replicate 32 0)) (fun ((i, q) : Int × List Int) => (32 - i).toNat) ((0 : Int), (List.replicate 32 0)) [1, 2, 3, 5] (by kernel_rfl) rfl ⟨H, by simp [itN]⟩ ?_
  rintro ⟨i, q⟩ w7 ⟨H, hi⟩
  try dsimp only at H hi
  refine wn_pick (T' := [(1, .pointer (some ⟨b1, 0, none⟩)), (2, .pointer (some ⟨b3, 0, none⟩)), (3, .pointer (some ⟨b5, 0, none⟩)), (5, .int .i64 i)]) [1, 2, 3, 5] (by kernel_rfl) ?_
  refine wn_seq (by kernel_rfl) ?_
  refine wn_reg 1 (by kernel_rfl) ?_
  refine wc_run (T' := [(1, .pointer (some ⟨b1, 0, none⟩)), (2, .pointer (some ⟨b3, 0, none⟩)), (3, .pointer (some ⟨b5, 0, none⟩)), (5, .int .i64 i), (6, .bool (decide (i < (32 : Int))))]) (L2 := (rng 1 0)) 1 [1, 2, 3, 5, 6] (by kernel_rfl) ?_
  refine wc_nil rfl ?_
  refine n_sq ?_
  refine wn_seq (by kernel_rfl) ?_
  refine wn_cond (.tmp 6) (decide (i < (32 : Int))) (by kernel_rfl) rfl (fun hc8 => ?_) (fun hc8 => ?_)
  · have hc8 := of_decide_eq_true hc8
    refine wn_skip (by kernel_rfl) ?_
    refine n_sq ?_
    refine wn_seq (by kernel_rfl) ?_
    refine wn_block 1 (by kernel_rfl) ?_
    refine wn_seq (by kernel_rfl) ?_
    refine wn_reg 2 (by kernel_rfl) ?_
    refine wc_run (T' := [(1, .pointer (some ⟨b1, 0, none⟩)), (2, .pointer (some ⟨b3, 0, none⟩)), (3, .pointer (some ⟨b5, 0, none⟩)), (4, .int .i64 i), (5, .int .i64 i)]) (L2 := (rng 2 0)) 2 [1, 2, 3, 4, 5] (by kernel_rfl) ?_
    refine wc_nil rfl ?_
    refine n_sq ?_
    refine wn_reg 13 (by kernel_rfl) ?_
    refine wc_run (T' := [(1, .pointer (some ⟨b1, 0, none⟩)), (2, .pointer (some ⟨b3, 0, none⟩)), (3, .pointer (some ⟨b5, 0, none⟩)), (4, .int .i64 i), (5, .int .i64 i), (8, .int .i64 i), (10, .int .i64 (IntKind.i64.wrap (i.tdiv 8)))]) (L2 := (rng 3 10)) 3 [1, 2, 3, 4, 5, 8, 10] (by kernel_rfl) ?_
    rw [Int.tdiv_eq_ediv_of_nonneg (a := i) (b := 8) (by first | omega | (simp only [List.length_append, List.length_cons, List.length_nil, List.length_set, List.length_replicate, List.length_drop, List.length_take, iv_length, Nat.zero_add] at * <;> omega))]
    rw [wi64 (x := i / 8) (by first | omega | (simp only [List.length_append, List.length_cons, List.length_nil, List.length_set, List.length_replicate, List.length_drop, List.length_take, iv_length, Nat.zero_add] at * <;> omega)) (by first | omega | (simp only [List.length_append, List.length_cons, List.length_nil, List.length_set, List.length_replicate, List.length_drop, List.length_take, iv_length, Nat.zero_add] at * <;> omega))]
    refine wc_ix (b := b1) (off := 0) (o' := (i / 8).toNat) (some 11) (some ⟨b1, 0, none⟩) 4 1 (i / 8) (by kernel_rfl) rfl (by omega) (by omega) (by omega) ?_
    refine wc_ld (b := b1) (off := (i / 8).toNat) (some 12) 22 (.int .u64 (h.getD ((i / 8).toNat) 0)) (by kernel_rfl) (Ld.ent1 H 2 rfl (by kernel_rfl) (iv_get (by have h : h.length = _ := hh; omega))) ?_
    refine wc_run (T' := [(1, .pointer (some ⟨b1, 0, none⟩)), (2, .pointer (some ⟨b3, 0, none⟩)), (3, .pointer (some ⟨b5, 0, none⟩)), (5, .int .i64 i), (8, .int .i64 i), (12, .int .u64 (h.getD ((i / 8).toNat) 0)), (14, .int .i64 (i.tmod 8))]) (L2 := (rng 7 6)) 2 [1, 2, 3, 5, 8, 12, 14] (by kernel_rfl) ?_
    rw [Int.tmod_eq_emod_of_nonneg (a := i) (b := 8) (by first | omega | (simp only [List.length_append, List.length_cons, List.length_nil, List.length_set, List.length_replicate, List.length_drop, List.length_take, iv_length, Nat.zero_add] at * <;> omega))]
    refine wc_run (T' := [(1, .pointer (some ⟨b1, 0, none⟩)), (2, .pointer (some ⟨b3, 0, none⟩)), (3, .pointer (some ⟨b5, 0, none⟩)), (5, .int .i64 i), (8, .int .i64 i), (12, .int .u64 (h.getD ((i / 8).toNat) 0)), (15, .int .i64 (IntKind.i64.wrap (8 * (i % 8))))]) (L2 := (rng 8 5)) 1 [1, 2, 3, 5, 8, 12, 15] (by kernel_rfl) ?_
    rw [wi64 (x := 8 * (i % 8)) (by first | omega | (simp only [List.length_append, List.length_cons, List.length_nil, List.length_set, List.length_replicate, List.length_drop, List.length_take, iv_length, Nat.zero_add] at * <;> omega)) (by first | omega | (simp only [List.length_append, List.length_cons, List.length_nil, List.length_set, List.length_replicate, List.length_drop, List.length_take, iv_length, Nat.zero_add] at * <;> omega))]
    refine wc_run (T' := [(1, .pointer (some ⟨b1, 0, none⟩)), (2, .pointer (some ⟨b3, 0, none⟩)), (3, .pointer (some ⟨b5, 0, none⟩)), (5, .int .i64 i), (8, .int .i64 i), (12, .int .u64 (h.getD ((i / 8).toNat) 0)), (16, .int .i64 (IntKind.i64.wrap (56 - (8 * (i % 8)))))]) (L2 := (rng 9 4)) 1 [1, 2, 3, 5, 8, 12, 16] (by kernel_rfl) ?_
    rw [wi64 (x := 56 - (8 * (i % 8))) (by first | omega | (simp only [List.length_append, List.length_cons, List.length_nil, List.length_set, List.length_replicate, List.length_drop, List.length_take, iv_length, Nat.zero_add] at * <;> omega)) (by first | omega | (simp only [List.length_append, List.length_cons, List.length_nil, List.length_set, List.length_replicate, List.length_drop, List.length_take, iv_length, Nat.zero_add] at * <;> omega))]
    refine wc_shr (some 17) .u64 (h.getD ((i / 8).toNat) 0) (56 - (8 * (i % 8))) (by kernel_rfl) (by kernel_rfl) (by omega) ?_
    refine wc_run (T' := [(1, .pointer (some ⟨b1, 0, none⟩)), (2, .pointer (some ⟨b3, 0, none⟩)), (3, .pointer (some ⟨b5, 0, none⟩)), (5, .int .i64 i), (8, .int .i64 i), (18, .int .u8 (IntKind.u8.wrap (shrV .u64 (h.getD ((i / 8).toNat) 0) (56 - (8 * (i % 8))))))]) (L2 := (rng 11 2)) 1 [1, 2, 3, 5, 8, 18] (by kernel_rfl) ?_
    refine wc_ix (b := b5) (off := 0) (o' := i.toNat) (some 19) (some ⟨b5, 0, none⟩) 32 1 i (by kernel_rfl) rfl (by omega) (by omega) (by omega) ?_
    refine wc_st (b := b5) (off := i.toNat) (Tb := 47) (vs := ([.int .u8 (IntKind.u8.wrap (shrV .u64 (h.getD ((i / 8).toNat) 0) (56 - (8 * (i % 8)))))])) (cs' := (iv .u8 (q.set i.toNat (IntKind.u8.wrap (shrV .u64 (h.getD ((i / 8).toNat) 0) (56 - (8 * (i % 8)))))))) H 0 5 (.int .u8 (IntKind.u8.wrap (shrV .u64 (h.getD ((i / 8).toNat) 0) (56 - (8 * (i % 8)))))) 1 (by kernel_rfl) rfl rfl (by rfl) (by first | (simp only [iv_length, List.length_set, List.length_replicate, *]; done) | (simp [iv_length, *]; done) | (simp [Value.cells, iv_length, *]; done) | omega | (simp [Value.cells, iv_length] <;> omega)) (by simp [Value.oneCell']) (by exact iv_set _ _ _ _ (by first | (simp only [iv_length, List.length_set, List.length_replicate, *]; done) | (simp [iv_length, *]; done) | (simp [Value.cells, iv_length, *]; done) | omega | (simp [Value.cells, iv_length] <;> omega))) (fun w9 H => ?_)
    dsimp only [List.set] at H
    refine wc_nil rfl ?_
    refine n_blk ?_
    refine n_sq ?_
    refine wn_reg 2 (by kernel_rfl) ?_
    refine wc_run (T' := [(1, .pointer (some ⟨b1, 0, none⟩)), (2, .pointer (some ⟨b3, 0, none⟩)), (3, .pointer (some ⟨b5, 0, none⟩)), (20, .int .i64 (IntKind.i64.wrap (i + 1)))]) (L2 := (rng 1 1)) 1 [1, 2, 3, 20] (by kernel_rfl) ?_
    rw [wi64 (x := i + 1) (by first | omega | (simp only [List.length_append, List.length_cons, List.length_nil, List.length_set, List.length_replicate, List.length_drop, List.length_take, iv_length, Nat.zero_add] at * <;> omega)) (by first | omega | (simp only [List.length_append, List.length_cons, List.length_nil, List.length_set, List.length_replicate, List.length_drop, List.length_take, iv_length, Nat.zero_add] at * <;> omega))]
    refine wc_run (T' := [(1, .pointer (some ⟨b1, 0, none⟩)), (2, .pointer (some ⟨b3, 0, none⟩)), (3, .pointer (some ⟨b5, 0, none⟩)), (5, .int .i64 (i + 1))]) (L2 := (rng 2 0)) 1 [1, 2, 3, 5] (by kernel_rfl) ?_
    refine wc_nil rfl ?_
    refine round_end (i + 1, q.set i.toNat (IntKind.u8.wrap (shrV .u64 (h.getD ((i / 8).toNat) 0) (56 - (8 * (i % 8)))))) [1, 2, 3, 5] (by kernel_rfl) ⟨H, ?_⟩ ?_
    · obtain ⟨h1, h2, h3, h4⟩ := hi
      have e1 : (i + 1).toNat = i.toNat + 1 := by omega
      have e2 : (i / 8).toNat = i.toNat / 8 := by omega
      have e3 : ((i.toNat : Nat) : Int) = i := by omega
      refine ⟨by omega, by omega, by simp [h3], ?_⟩
      rw [e1, e2, itN, frS, ← h4, e3]
    · first | omega | (dsimp only; omega)
  · have hc8 := of_decide_eq_false hc8
    refine wn_exit 0 (by kernel_rfl) ?_
    refine e_sq ?_
    refine e_then ?_
    refine e_blk ?_
    refine n_sq ?_
    refine wn_seq (by kernel_rfl) ?_
    refine wn_reg 2 (by kernel_rfl) ?_
    refine wc_ld (b := b5) (off := 0) (some 21) 47 (.agg (iv .u8 q).toArray) (by kernel_rfl) (Ld.entW H 0 (n := 32) rfl (by kernel_rfl) (by first | (simp only [iv_length, List.length_set, List.length_replicate, *]; done) | (simp [iv_length, *]; done) | (simp [Value.cells, iv_length, *]; done) | omega | (simp [Value.cells, iv_length] <;> omega))) ?_
    refine wc_st (b := b3) (off := 0) (Tb := 47) (vs := (iv .u8 q)) (cs' := (iv .u8 q)) H 1 47 (.agg (iv .u8 q).toArray) 32 (by kernel_rfl) rfl rfl (by first | (simp only [iv_length, List.length_set, List.length_replicate, *]; done) | (simp [iv_length, *]; done) | (simp [Value.cells, iv_length, *]; done) | omega | (simp [Value.cells, iv_length] <;> omega)) (by have h := (iv_length .u8 (List.replicate 32 0)).trans List.length_replicate; omega) (by exact iv_flat _ _) (by first | rfl | exact blit_all _ _ (by first | (simp only [iv_length, List.length_set, List.length_replicate, *]; done) | (simp [iv_length, *]; done) | (simp [Value.cells, iv_length, *]; done) | omega | (simp [Value.cells, iv_length] <;> omega)) | (simp [blit, List.drop_append, List.take_append, iv_length, *]; done)) (fun w10 H => ?_)
    dsimp only [List.set] at H
    refine wc_nil rfl ?_
    refine n_sq ?_
    refine wn_ret (by kernel_rfl) ?_
    refine ret1 _ (Or.inr rfl) Try.results46 ⟨_, _, rfl, Ld.entW H 1 (n := 32) rfl (by kernel_rfl) (by first | (simp only [iv_length, List.length_set, List.length_replicate, *]; done) | (simp [iv_length, *]; done) | (simp [Value.cells, iv_length, *]; done) | omega | (simp [Value.cells, iv_length] <;> omega))⟩ ?_
    have he11 : frF 32 32 h = q := by
      obtain ⟨h1, h2, h3, h4⟩ := hi
      have e : i.toNat = 32 := by omega
      rw [h4, e, frF]
    exact ⟨by first | (rw [he11]; done) | (rw [he11]; rfl), H.nil, by exact frF_length _ _ _⟩

noncomputable def cd_proctorref01_From : Code := (Try.f47.body).getD .skip
theorem proctorref01_From (w : World) (h : List Int) (hh : h.length = 4) :
    Calls Try.prog 47 #[.agg (iv .u64 h).toArray] w (fun e w' => e = .returned (.agg (iv .u8 (frF 32 32 h)).toArray) ∧ Hp no w w' [] ∧ (frF 32 32 h).length = 32) := by
  refine enter (args := [_]) (c := cd_proctorref01_From) (N := 23) Try.func47 (by kernel_rfl) (by kernel_rfl) (by simp) ?_
  have H := Hp.start w
  refine wn_seq (by kernel_rfl) ?_
  refine wn_reg 2 (by kernel_rfl) ?_
  refine wc_new H (some 1) (row (iv .u64 h) 73) (fun r => .pointer (some ⟨r, 0, none⟩)) (by kernel_rfl) (fun b1 w2 H => ?_)
  refine wc_new H (some 2) (row (iv .u8 (List.replicate 32 0)) 47) (fun r => .pointer (some ⟨r, 0, none⟩)) (by kernel_rfl) (fun b3 w4 H => ?_)
  refine wc_nil rfl ?_
  refine n_sq ?_
  refine wn_seq (by kernel_rfl) ?_
  refine wn_reg 1 (by kernel_rfl) ?_
  refine wc_new H (some 3) (row (iv .u8 (List.replicate 32 0)) 47) (fun r => .pointer (some ⟨r, 0, none⟩)) (by kernel_rfl) (fun b5 w6 H => ?_)
  refine wc_nil rfl ?_
  refine n_sq ?_
  refine wn_seq (by kernel_rfl) ?_
  refine wn_seq (by kernel_rfl) ?_
  refine wn_reg 1 (by kernel_rfl) ?_
  refine wc_run (T' := [(1, .pointer (some ⟨b1, 0, none⟩)), (2, .pointer (some ⟨b3, 0, none⟩)), (3, .pointer (some ⟨b5, 0, none⟩)), (4, .int .i64 0)]) (L2 := (rng 1 0)) 1 [1, 2, 3, 4] (by kernel_rfl) ?_
  refine wc_nil rfl ?_
  refine n_sq ?_
  refine wn_block 0 (by kernel_rfl) ?_
  refine wn_loop (fun ((i, q) : Int × List Int) => [(1, .pointer (some ⟨b1, 0, none⟩)), (2, .pointer (some ⟨b3, 0, none⟩)), (3, .pointer (some ⟨b5, 0, none⟩)), (4, .int .i64 i)]) (fun ((i, q) : Int × List Int) w' => Hp no w w' [.bk b5 (row (iv .u8 q) 47), .bk b3 (row (iv .u8 (List.replicate 32 0)) 47), .bk b1 (row (iv .u64 h) 73)] ∧ 0 ≤ i ∧ i ≤ 32 ∧ q.length = 32 ∧ q = itN (frS h) i.toNat (List.replicate 32 0)) (fun ((i, q) : Int × List Int) => (32 - i).toNat) ((0 : Int), (List.replicate 32 0)) [1, 2, 3, 4] (by kernel_rfl) rfl ⟨H, by simp [itN]⟩ ?_
  rintro ⟨i, q⟩ w7 ⟨H, hi⟩
  try dsimp only at H hi
  refine wn_pick (T' := [(1, .pointer (some ⟨b1, 0, none⟩)), (2, .pointer (some ⟨b3, 0, none⟩)), (3, .pointer (some ⟨b5, 0, none⟩)), (4, .int .i64 i)]) [1, 2, 3, 4] (by kernel_rfl) ?_
  refine wn_seq (by kernel_rfl) ?_
  refine wn_seq (by kernel_rfl) ?_
  refine wn_reg 2 (by kernel_rfl) ?_
  refine wc_run (T' := [(1, .pointer (some ⟨b1, 0, none⟩)), (2, .pointer (some ⟨b3, 0, none⟩)), (3, .pointer (some ⟨b5, 0, none⟩)), (4, .int .i64 i), (6, .bool (decide (i < (32 : Int))))]) (L2 := (rng 2 0)) 2 [1, 2, 3, 4, 6] (by kernel_rfl) ?_
  refine wc_nil rfl ?_
  refine n_sq ?_
  refine wn_cond (.tmp 6) (decide (i < (32 : Int))) (by kernel_rfl) rfl (fun hc8 => ?_) (fun hc8 => ?_)
  · have hc8 := of_decide_eq_true hc8
    refine wn_skip (by kernel_rfl) ?_
    refine n_sq ?_
    refine wn_seq (by kernel_rfl) ?_
    refine wn_block 1 (by kernel_rfl) ?_
    refine wn_reg 14 (by kernel_rfl) ?_
    refine wc_run (T' := [(1, .pointer (some ⟨b1, 0, none⟩)), (2, .pointer (some ⟨b3, 0, none⟩)), (3, .pointer (some ⟨b5, 0, none⟩)), (4, .int .i64 i), (9, .int .i64 i), (11, .int .i64 (IntKind.i64.wrap (i.tdiv 8)))]) (L2 := (rng 3 11)) 3 [1, 2, 3, 4, 9, 11] (by kernel_rfl) ?_
    rw [Int.tdiv_eq_ediv_of_nonneg (a := i) (b := 8) (by first | omega | (simp only [List.length_append, List.length_cons, List.length_nil, List.length_set, List.length_replicate, List.length_drop, List.length_take, iv_length, Nat.zero_add] at * <;> omega))]
    rw [wi64 (x := i / 8) (by first | omega | (simp only [List.length_append, List.length_cons, List.length_nil, List.length_set, List.length_replicate, List.length_drop, List.length_take, iv_length, Nat.zero_add] at * <;> omega)) (by first | omega | (simp only [List.length_append, List.length_cons, List.length_nil, List.length_set, List.length_replicate, List.length_drop, List.length_take, iv_length, Nat.zero_add] at * <;> omega))]
    refine wc_ix (b := b1) (off := 0) (o' := (i / 8).toNat) (some 12) (some ⟨b1, 0, none⟩) 4 1 (i / 8) (by kernel_rfl) rfl (by omega) (by omega) (by omega) ?_
    refine wc_ld (b := b1) (off := (i / 8).toNat) (some 13) 22 (.int .u64 (h.getD ((i / 8).toNat) 0)) (by kernel_rfl) (Ld.ent1 H 2 rfl (by kernel_rfl) (iv_get (by have h : h.length = _ := hh; omega))) ?_
    refine wc_run (T' := [(1, .pointer (some ⟨b1, 0, none⟩)), (2, .pointer (some ⟨b3, 0, none⟩)), (3, .pointer (some ⟨b5, 0, none⟩)), (4, .int .i64 i), (9, .int .i64 i), (13, .int .u64 (h.getD ((i / 8).toNat) 0)), (15, .int .i64 (i.tmod 8))]) (L2 := (rng 7 7)) 2 [1, 2, 3, 4, 9, 13, 15] (by kernel_rfl) ?_
    rw [Int.tmod_eq_emod_of_nonneg (a := i) (b := 8) (by first | omega | (simp only [List.length_append, List.length_cons, List.length_nil, List.length_set, List.length_replicate, List.length_drop, List.length_take, iv_length, Nat.zero_add] at * <;> omega))]
    refine wc_run (T' := [(1, .pointer (some ⟨b1, 0, none⟩)), (2, .pointer (some ⟨b3, 0, none⟩)), (3, .pointer (some ⟨b5, 0, none⟩)), (4, .int .i64 i), (9, .int .i64 i), (13, .int .u64 (h.getD ((i / 8).toNat) 0)), (16, .int .i64 (IntKind.i64.wrap (8 * (i % 8))))]) (L2 := (rng 8 6)) 1 [1, 2, 3, 4, 9, 13, 16] (by kernel_rfl) ?_
    rw [wi64 (x := 8 * (i % 8)) (by first | omega | (simp only [List.length_append, List.length_cons, List.length_nil, List.length_set, List.length_replicate, List.length_drop, List.length_take, iv_length, Nat.zero_add] at * <;> omega)) (by first | omega | (simp only [List.length_append, List.length_cons, List.length_nil, List.length_set, List.length_replicate, List.length_drop, List.length_take, iv_length, Nat.zero_add] at * <;> omega))]
    refine wc_run (T' := [(1, .pointer (some ⟨b1, 0, none⟩)), (2, .pointer (some ⟨b3, 0, none⟩)), (3, .pointer (some ⟨b5, 0, none⟩)), (4, .int .i64 i), (9, .int .i64 i), (13, .int .u64 (h.getD ((i / 8).toNat) 0)), (17, .int .i64 (IntKind.i64.wrap (56 - (8 * (i % 8)))))]) (L2 := (rng 9 5)) 1 [1, 2, 3, 4, 9, 13, 17] (by kernel_rfl) ?_
    rw [wi64 (x := 56 - (8 * (i % 8))) (by first | omega | (simp only [List.length_append, List.length_cons, List.length_nil, List.length_set, List.length_replicate, List.length_drop, List.length_take, iv_length, Nat.zero_add] at * <;> omega)) (by first | omega | (simp only [List.length_append, List.length_cons, List.length_nil, List.length_set, List.length_replicate, List.length_drop, List.length_take, iv_length, Nat.zero_add] at * <;> omega))]
    refine wc_run (T' := [(1, .pointer (some ⟨b1, 0, none⟩)), (2, .pointer (some ⟨b3, 0, none⟩)), (3, .pointer (some ⟨b5, 0, none⟩)), (4, .int .i64 i), (9, .int .i64 i), (13, .int .u64 (h.getD ((i / 8).toNat) 0)), (18, .int .u64 (IntKind.u64.wrap (56 - (8 * (i % 8)))))]) (L2 := (rng 10 4)) 1 [1, 2, 3, 4, 9, 13, 18] (by kernel_rfl) ?_
    rw [wu64 (x := 56 - (8 * (i % 8))) (by first | omega | (simp only [List.length_append, List.length_cons, List.length_nil, List.length_set, List.length_replicate, List.length_drop, List.length_take, iv_length, Nat.zero_add] at * <;> omega)) (by first | omega | (simp only [List.length_append, List.length_cons, List.length_nil, List.length_set, List.length_replicate, List.length_drop, List.length_take, iv_length, Nat.zero_add] at * <;> omega))]
    refine wc_shr (some 19) .u64 (h.getD ((i / 8).toNat) 0) (56 - (8 * (i % 8))) (by kernel_rfl) (by kernel_rfl) (by omega) ?_
    refine wc_run (T' := [(1, .pointer (some ⟨b1, 0, none⟩)), (2, .pointer (some ⟨b3, 0, none⟩)), (3, .pointer (some ⟨b5, 0, none⟩)), (4, .int .i64 i), (9, .int .i64 i), (20, .int .u8 (IntKind.u8.wrap (shrV .u64 (h.getD ((i / 8).toNat) 0) (56 - (8 * (i % 8))))))]) (L2 := (rng 12 2)) 1 [1, 2, 3, 4, 9, 20] (by kernel_rfl) ?_
    refine wc_ix (b := b5) (off := 0) (o' := i.toNat) (some 21) (some ⟨b5, 0, none⟩) 32 1 i (by kernel_rfl) rfl (by omega) (by omega) (by omega) ?_
    refine wc_st (b := b5) (off := i.toNat) (Tb := 47) (vs := ([.int .u8 (IntKind.u8.wrap (shrV .u64 (h.getD ((i / 8).toNat) 0) (56 - (8 * (i % 8)))))])) (cs' := (iv .u8 (q.set i.toNat (IntKind.u8.wrap (shrV .u64 (h.getD ((i / 8).toNat) 0) (56 - (8 * (i % 8)))))))) H 0 5 (.int .u8 (IntKind.u8.wrap (shrV .u64 (h.getD ((i / 8).toNat) 0) (56 - (8 * (i % 8)))))) 1 (by kernel_rfl) rfl rfl (by rfl) (by first | (simp only [iv_length, List.length_set, List.length_replicate, *]; done) | (simp [iv_length, *]; done) | (simp [Value.cells, iv_length, *]; done) | omega | (simp [Value.cells, iv_length] <;> omega)) (by simp [Value.oneCell']) (by exact iv_set _ _ _ _ (by first | (simp only [iv_length, List.length_set, List.length_replicate, *]; done) | (simp [iv_length, *]; done) | (simp [Value.cells, iv_length, *]; done) | omega | (simp [Value.cells, iv_length] <;> omega))) (fun w9 H => ?_)
    dsimp only [List.set] at H
    refine wc_nil rfl ?_
    refine n_blk ?_
    refine n_sq ?_
    refine wn_reg 3 (by kernel_rfl) ?_
    refine wc_run (T' := [(1, .pointer (some ⟨b1, 0, none⟩)), (2, .pointer (some ⟨b3, 0, none⟩)), (3, .pointer (some ⟨b5, 0, none⟩)), (8, .int .i64 (IntKind.i64.wrap (i + 1)))]) (L2 := (rng 2 1)) 2 [1, 2, 3, 8] (by kernel_rfl) ?_
    rw [wi64 (x := i + 1) (by first | omega | (simp only [List.length_append, List.length_cons, List.length_nil, List.length_set, List.length_replicate, List.length_drop, List.length_take, iv_length, Nat.zero_add] at * <;> omega)) (by first | omega | (simp only [List.length_append, List.length_cons, List.length_nil, List.length_set, List.length_replicate, List.length_drop, List.length_take, iv_length, Nat.zero_add] at * <;> omega))]
    refine wc_run (T' := [(1, .pointer (some ⟨b1, 0, none⟩)), (2, .pointer (some ⟨b3, 0, none⟩)), (3, .pointer (some ⟨b5, 0, none⟩)), (4, .int .i64 (i + 1))]) (L2 := (rng 3 0)) 1 [1, 2, 3, 4] (by kernel_rfl) ?_
    refine wc_nil rfl ?_
    refine round_end (i + 1, q.set i.toNat (IntKind.u8.wrap (shrV .u64 (h.getD ((i / 8).toNat) 0) (56 - (8 * (i % 8)))))) [1, 2, 3, 4] (by kernel_rfl) ⟨H, ?_⟩ ?_
    · obtain ⟨h1, h2, h3, h4⟩ := hi
      have e1 : (i + 1).toNat = i.toNat + 1 := by omega
      have e2 : (i / 8).toNat = i.toNat / 8 := by omega
      have e3 : ((i.toNat : Nat) : Int) = i := by omega
      refine ⟨by omega, by omega, by simp [h3], ?_⟩
      rw [e1, e2, itN, frS, ← h4, e3]
    · first | omega | (dsimp only; omega)
  · have hc8 := of_decide_eq_false hc8
    refine wn_exit 0 (by kernel_rfl) ?_
    refine e_sq ?_
    refine e_then ?_
    refine e_blk ?_
    refine n_sq ?_
    refine wn_seq (by kernel_rfl) ?_
    refine wn_reg 2 (by kernel_rfl) ?_
    refine wc_ld (b := b5) (off := 0) (some 22) 47 (.agg (iv .u8 q).toArray) (by kernel_rfl) (Ld.entW H 0 (n := 32) rfl (by kernel_rfl) (by first | (simp only [iv_length, List.length_set, List.length_replicate, *]; done) | (simp [iv_length, *]; done) | (simp [Value.cells, iv_length, *]; done) | omega | (simp [Value.cells, iv_length] <;> omega))) ?_
    refine wc_st (b := b3) (off := 0) (Tb := 47) (vs := (iv .u8 q)) (cs' := (iv .u8 q)) H 1 47 (.agg (iv .u8 q).toArray) 32 (by kernel_rfl) rfl rfl (by first | (simp only [iv_length, List.length_set, List.length_replicate, *]; done) | (simp [iv_length, *]; done) | (simp [Value.cells, iv_length, *]; done) | omega | (simp [Value.cells, iv_length] <;> omega)) (by have h := (iv_length .u8 (List.replicate 32 0)).trans List.length_replicate; omega) (by exact iv_flat _ _) (by first | rfl | exact blit_all _ _ (by first | (simp only [iv_length, List.length_set, List.length_replicate, *]; done) | (simp [iv_length, *]; done) | (simp [Value.cells, iv_length, *]; done) | omega | (simp [Value.cells, iv_length] <;> omega)) | (simp [blit, List.drop_append, List.take_append, iv_length, *]; done)) (fun w10 H => ?_)
    dsimp only [List.set] at H
    refine wc_nil rfl ?_
    refine n_sq ?_
    refine wn_ret (by kernel_rfl) ?_
    refine ret1 _ (Or.inr rfl) Try.results47 ⟨_, _, rfl, Ld.entW H 1 (n := 32) rfl (by kernel_rfl) (by first | (simp only [iv_length, List.length_set, List.length_replicate, *]; done) | (simp [iv_length, *]; done) | (simp [Value.cells, iv_length, *]; done) | omega | (simp [Value.cells, iv_length] <;> omega))⟩ ?_
    have he11 : frF 32 32 h = q := by
      obtain ⟨h1, h2, h3, h4⟩ := hi
      have e : i.toNat = 32 := by omega
      rw [h4, e, frF]
    exact ⟨by first | (rw [he11]; done) | (rw [he11]; rfl), H.nil, by exact frF_length _ _ _⟩

noncomputable def cd_msg_May : Code := (Try.f24.body).getD .skip
theorem msg_May (w : World) (k : Int) (f : Int) (t : Int) (a : Int) (n : Int) (x : List Int) (y : List Int) (hx : x.length = 32) (hy : y.length = 32) (hk : 0 ≤ k ∧ k < 256) (hf : 0 ≤ f ∧ f < 18446744073709551616) (ht : 0 ≤ t ∧ t < 18446744073709551616) (ha : 0 ≤ a ∧ a < 18446744073709551616) (hn : 0 ≤ n ∧ n < 18446744073709551616) (hxb : ∀ j, 0 ≤ x.getD j 0 ∧ x.getD j 0 < 256) (hyb : ∀ j, 0 ≤ y.getD j 0 ∧ y.getD j 0 < 256) :
    Calls Try.prog 24 #[.agg ([.int .u8 k, .int .u64 f, .int .u64 t, .int .u64 a, .int .u64 n] ++ ((iv .u8 x) ++ (iv .u8 y)) : List Value).toArray] w (fun e w' => e = .returned (.bool (mayM k f t a n x y)) ∧ Hp no w w' []) := by
  refine enter (args := [_]) (c := cd_msg_May) (N := 45) Try.func24 (by kernel_rfl) (by kernel_rfl) (by simp) ?_
  have H := Hp.start w
  refine wn_seq (by kernel_rfl) ?_
  refine wn_reg 2 (by kernel_rfl) ?_
  refine wc_new H (some 1) (row ([.int .u8 k, .int .u64 f, .int .u64 t, .int .u64 a, .int .u64 n] ++ ((iv .u8 x) ++ (iv .u8 y))) 49) (fun r => .pointer (some ⟨r, 0, none⟩)) (by kernel_rfl) (fun b1 w2 H => ?_)
  refine wc_run (T' := [(1, .pointer (some ⟨b1, 0, none⟩))]) (L2 := (rng 2 0)) 1 [1] (by kernel_rfl) ?_
  refine wc_nil rfl ?_
  refine n_sq ?_
  refine wn_seq (by kernel_rfl) ?_
  refine wn_reg 3 (by kernel_rfl) ?_
  refine wc_ld (b := b1) (off := 0) (some 4) 49 (.agg ([.int .u8 k, .int .u64 f, .int .u64 t, .int .u64 a, .int .u64 n] ++ ((iv .u8 x) ++ (iv .u8 y)) : List Value).toArray) (by kernel_rfl) (Ld.entW H 0 (n := 69) rfl (by kernel_rfl) (by exact (lenA (rfl : ([.int .u8 k, .int .u64 f, .int .u64 t, .int .u64 a, .int .u64 n] : List Value).length = 5) (lenA ((iv_length .u8 x).trans hx) ((iv_length .u8 y).trans hy))))) ?_
  refine wc_new H (some 3) (row ([.int .u8 0] ++ ((iv .u64 (List.replicate 4 0)) ++ (iv .u8 (List.replicate 64 0)))) 49) (fun r => .pointer (some ⟨r, 0, none⟩)) (by kernel_rfl) (fun b3 w4 H => ?_)
  refine wc_st (b := b3) (off := 0) (Tb := 49) (vs := ([.int .u8 k, .int .u64 f, .int .u64 t, .int .u64 a, .int .u64 n] ++ ((iv .u8 x) ++ (iv .u8 y)))) (cs' := ([.int .u8 k, .int .u64 f, .int .u64 t, .int .u64 a, .int .u64 n] ++ ((iv .u8 x) ++ (iv .u8 y)))) H 0 49 (.agg ([.int .u8 k, .int .u64 f, .int .u64 t, .int .u64 a, .int .u64 n] ++ ((iv .u8 x) ++ (iv .u8 y)) : List Value).toArray) 69 (by kernel_rfl) rfl rfl (by exact (lenA (rfl : ([.int .u8 k, .int .u64 f, .int .u64 t, .int .u64 a, .int .u64 n] : List Value).length = 5) (lenA ((iv_length .u8 x).trans hx) ((iv_length .u8 y).trans hy)))) (by have h : ([.int .u8 0] ++ ((iv .u64 (List.replicate 4 0)) ++ (iv .u8 (List.replicate 64 0))) : List Value).length = 69 := (lenA (rfl : ([.int .u8 0] : List Value).length = 1) (lenA ((iv_length .u64 (List.replicate 4 0)).trans List.length_replicate) ((iv_length .u8 (List.replicate 64 0)).trans List.length_replicate))); omega) (by exact (flA (by simp [Value.oneCell']) (flA (iv_flat _ _) (iv_flat _ _)))) (by exact blit_all _ _ ((show ([.int .u8 k, .int .u64 f, .int .u64 t, .int .u64 a, .int .u64 n] ++ ((iv .u8 x) ++ (iv .u8 y)) : List Value).length = 69 from (lenA (rfl : ([.int .u8 k, .int .u64 f, .int .u64 t, .int .u64 a, .int .u64 n] : List Value).length = 5) (lenA ((iv_length .u8 x).trans hx) ((iv_length .u8 y).trans hy)))).trans (show ([.int .u8 0] ++ ((iv .u64 (List.replicate 4 0)) ++ (iv .u8 (List.replicate 64 0))) : List Value).length = 69 from (lenA (rfl : ([.int .u8 0] : List Value).length = 1) (lenA ((iv_length .u64 (List.replicate 4 0)).trans List.length_replicate) ((iv_length .u8 (List.replicate 64 0)).trans List.length_replicate)))).symm)) (fun w5 H => ?_)
  dsimp only [List.set] at H
  refine wc_nil rfl ?_
  refine n_sq ?_
  refine wn_seq (by kernel_rfl) ?_
  refine wn_seq (by kernel_rfl) ?_
  refine wn_reg 2 (by kernel_rfl) ?_
  refine wc_run (T' := [(1, .pointer (some ⟨b1, 0, none⟩)), (3, .pointer (some ⟨b3, 0, none⟩)), (5, .pointer (some ⟨b1, 0, none⟩))]) (L2 := (rng 1 1)) 1 [1, 3, 5] (by kernel_rfl) ?_
  refine wc_ld (b := b1) (off := 0) (some 6) 45 (.int .u8 k) (by kernel_rfl) (Ld.ent1 H 1 rfl (by kernel_rfl) (by rfl)) ?_
  refine wc_nil rfl ?_
  refine n_sq ?_
  refine wn_block 0 (by kernel_rfl) ?_
  refine wn_seq (by kernel_rfl) ?_
  refine wn_block 2 (by kernel_rfl) ?_
  refine wn_seq (by kernel_rfl) ?_
  refine wn_block 1 (by kernel_rfl) ?_
  refine wn_seq (by kernel_rfl) ?_
  refine wn_seq (by kernel_rfl) ?_
  refine wn_seq (by kernel_rfl) ?_
  refine wn_seq (by kernel_rfl) ?_
  refine wn_reg 2 (by kernel_rfl) ?_
  refine wc_run (T' := [(1, .pointer (some ⟨b1, 0, none⟩)), (3, .pointer (some ⟨b3, 0, none⟩)), (6, .int .u8 k), (7, .bool (k == (2 : Int)))]) (L2 := (rng 2 0)) 2 [1, 3, 6, 7] (by kernel_rfl) ?_
  refine wc_nil rfl ?_
  refine n_sq ?_
  refine wn_cond (.tmp 7) (k == (2 : Int)) (by kernel_rfl) rfl (fun hc6 => ?_) (fun hc6 => ?_)
  · have hc6 := eq_of_beq hc6
    refine wn_skip (by kernel_rfl) ?_
    refine n_sq ?_
    refine wn_cond (.tmp 7) (k == (2 : Int)) (by kernel_rfl) rfl (fun hc7 => ?_) (fun hc7 => ?_)
    · have hc7 := eq_of_beq hc7
      refine wn_exit 1 (by kernel_rfl) ?_
      refine e_sq ?_
      refine e_sq ?_
      refine e_blk ?_
      refine n_sq ?_
      refine wn_seq (by kernel_rfl) ?_
      refine wn_seq (by kernel_rfl) ?_
      refine wn_reg 3 (by kernel_rfl) ?_
      refine wc_run (T' := [(1, .pointer (some ⟨b1, 0, none⟩)), (3, .pointer (some ⟨b3, 0, none⟩)), (12, .pointer (some ⟨b1, 1, none⟩))]) (L2 := (rng 1 2)) 1 [1, 3, 12] (by kernel_rfl) ?_
      refine wc_ld (b := b1) (off := 1) (some 13) 22 (.int .u64 f) (by kernel_rfl) (Ld.ent1 H 1 rfl (by kernel_rfl) (by rfl)) ?_
      refine wc_run (T' := [(1, .pointer (some ⟨b1, 0, none⟩)), (3, .pointer (some ⟨b3, 0, none⟩)), (14, .bool (decide (f ≥ (32 : Int))))]) (L2 := (rng 3 0)) 1 [1, 3, 14] (by kernel_rfl) ?_
      refine wc_nil rfl ?_
      refine n_sq ?_
      refine wn_cond (.tmp 14) (decide (f ≥ (32 : Int))) (by kernel_rfl) rfl (fun hc8 => ?_) (fun hc8 => ?_)
      · have hc8 := of_decide_eq_true hc8
        refine wn_seq (by kernel_rfl) ?_
        refine wn_reg 1 (by kernel_rfl) ?_
        refine wc_run (T' := [(2, .bool false)]) (L2 := (rng 1 0)) 1 [2] (by kernel_rfl) ?_
        refine wc_nil rfl ?_
        refine n_sq ?_
        refine wn_ret (by kernel_rfl) ?_
        refine r_sq ?_
        refine r_blk ?_
        refine r_sq ?_
        refine r_blk ?_
        refine r_sq ?_
        refine ret1 _ (Or.inr rfl) Try.results24 rfl ?_
        have he9 : mayM k f t a n x y = false := by
          unfold mayM; rw [Bool.eq_iff_iff]; simp_all; try grind
        exact ⟨by first | (rw [he9]; done) | (rw [he9]; rfl), H.nil⟩
      · have hc8 := of_decide_eq_false hc8
        refine wn_skip (by kernel_rfl) ?_
        refine n_sq ?_
        refine wn_reg 10 (by kernel_rfl) ?_
        refine wc_run (T' := [(1, .pointer (some ⟨b1, 0, none⟩)), (3, .pointer (some ⟨b3, 0, none⟩)), (15, .agg (iv .u8 (List.replicate 32 0)).toArray), (16, .agg (iv .u8 (List.replicate 32 0)).toArray), (17, .pointer (some ⟨b3, 1, none⟩))]) (L2 := (rng 3 7)) 3 [1, 3, 15, 16, 17] (by kernel_rfl) ?_
        refine wc_st (b := b3) (off := 1) (Tb := 49) (vs := ([.int .u64 0])) (cs' := ([.int .u8 k, .int .u64 0, .int .u64 t, .int .u64 a, .int .u64 n] ++ ((iv .u8 x) ++ (iv .u8 y)))) H 0 22 (.int .u64 0) 1 (by kernel_rfl) rfl rfl (by rfl) (by have h : ([.int .u8 k, .int .u64 f, .int .u64 t, .int .u64 a, .int .u64 n] ++ ((iv .u8 x) ++ (iv .u8 y)) : List Value).length = 69 := (lenA (rfl : ([.int .u8 k, .int .u64 f, .int .u64 t, .int .u64 a, .int .u64 n] : List Value).length = 5) (lenA ((iv_length .u8 x).trans hx) ((iv_length .u8 y).trans hy))); omega) (by simp [Value.oneCell']) (by first | rfl | exact blit_all _ _ (by first | (simp only [iv_length, List.length_set, List.length_replicate, *]; done) | (simp [iv_length, *]; done) | (simp [Value.cells, iv_length, *]; done) | omega | (simp [Value.cells, iv_length] <;> omega)) | (simp [blit, List.drop_append, List.take_append, iv_length, *]; done)) (fun w10 H => ?_)
        dsimp only [List.set] at H
        refine wc_run (T' := [(1, .pointer (some ⟨b1, 0, none⟩)), (3, .pointer (some ⟨b3, 0, none⟩)), (15, .agg (iv .u8 (List.replicate 32 0)).toArray), (16, .agg (iv .u8 (List.replicate 32 0)).toArray), (18, .pointer (some ⟨b3, 4, none⟩))]) (L2 := (rng 5 5)) 1 [1, 3, 15, 16, 18] (by kernel_rfl) ?_
        refine wc_st (b := b3) (off := 4) (Tb := 49) (vs := ([.int .u64 0])) (cs' := ([.int .u8 k, .int .u64 0, .int .u64 t, .int .u64 a, .int .u64 0] ++ ((iv .u8 x) ++ (iv .u8 y)))) H 0 22 (.int .u64 0) 1 (by kernel_rfl) rfl rfl (by rfl) (by have h : ([.int .u8 k, .int .u64 0, .int .u64 t, .int .u64 a, .int .u64 n] ++ ((iv .u8 x) ++ (iv .u8 y)) : List Value).length = 69 := (lenA (rfl : ([.int .u8 k, .int .u64 0, .int .u64 t, .int .u64 a, .int .u64 n] : List Value).length = 5) (lenA ((iv_length .u8 x).trans hx) ((iv_length .u8 y).trans hy))); omega) (by simp [Value.oneCell']) (by first | rfl | exact blit_all _ _ (by first | (simp only [iv_length, List.length_set, List.length_replicate, *]; done) | (simp [iv_length, *]; done) | (simp [Value.cells, iv_length, *]; done) | omega | (simp [Value.cells, iv_length] <;> omega)) | (simp [blit, List.drop_append, List.take_append, iv_length, *]; done)) (fun w11 H => ?_)
        dsimp only [List.set] at H
        refine wc_run (T' := [(1, .pointer (some ⟨b1, 0, none⟩)), (3, .pointer (some ⟨b3, 0, none⟩)), (15, .agg (iv .u8 (List.replicate 32 0)).toArray), (16, .agg (iv .u8 (List.replicate 32 0)).toArray), (19, .pointer (some ⟨b3, 5, none⟩))]) (L2 := (rng 7 3)) 1 [1, 3, 15, 16, 19] (by kernel_rfl) ?_
        refine wc_st (b := b3) (off := 5) (Tb := 49) (vs := (iv .u8 (List.replicate 32 0))) (cs' := ([.int .u8 k, .int .u64 0, .int .u64 t, .int .u64 a, .int .u64 0] ++ ((iv .u8 (List.replicate 32 0)) ++ (iv .u8 y)))) H 0 47 (.agg (iv .u8 (List.replicate 32 0)).toArray) 32 (by kernel_rfl) rfl rfl (by exact (iv_length .u8 (List.replicate 32 0)).trans List.length_replicate) (by have h : ([.int .u8 k, .int .u64 0, .int .u64 t, .int .u64 a, .int .u64 0] ++ ((iv .u8 x) ++ (iv .u8 y)) : List Value).length = 69 := (lenA (rfl : ([.int .u8 k, .int .u64 0, .int .u64 t, .int .u64 a, .int .u64 0] : List Value).length = 5) (lenA ((iv_length .u8 x).trans hx) ((iv_length .u8 y).trans hy))); omega) (by exact iv_flat _ _) (by first | rfl | exact blit_all _ _ (by first | (simp only [iv_length, List.length_set, List.length_replicate, *]; done) | (simp [iv_length, *]; done) | (simp [Value.cells, iv_length, *]; done) | omega | (simp [Value.cells, iv_length] <;> omega)) | (simp [blit, List.drop_append, List.take_append, iv_length, *]; done)) (fun w12 H => ?_)
        dsimp only [List.set] at H
        refine wc_run (T' := [(1, .pointer (some ⟨b1, 0, none⟩)), (3, .pointer (some ⟨b3, 0, none⟩)), (16, .agg (iv .u8 (List.replicate 32 0)).toArray), (20, .pointer (some ⟨b3, 37, none⟩))]) (L2 := (rng 9 1)) 1 [1, 3, 16, 20] (by kernel_rfl) ?_
        refine wc_st (b := b3) (off := 37) (Tb := 49) (vs := (iv .u8 (List.replicate 32 0))) (cs' := ([.int .u8 k, .int .u64 0, .int .u64 t, .int .u64 a, .int .u64 0] ++ ((iv .u8 (List.replicate 32 0)) ++ (iv .u8 (List.replicate 32 0))))) H 0 47 (.agg (iv .u8 (List.replicate 32 0)).toArray) 32 (by kernel_rfl) rfl rfl (by exact (iv_length .u8 (List.replicate 32 0)).trans List.length_replicate) (by have h : ([.int .u8 k, .int .u64 0, .int .u64 t, .int .u64 a, .int .u64 0] ++ ((iv .u8 (List.replicate 32 0)) ++ (iv .u8 y)) : List Value).length = 69 := (lenA (rfl : ([.int .u8 k, .int .u64 0, .int .u64 t, .int .u64 a, .int .u64 0] : List Value).length = 5) (lenA ((iv_length .u8 (List.replicate 32 0)).trans List.length_replicate) ((iv_length .u8 y).trans hy))); omega) (by exact iv_flat _ _) (by first | rfl | exact blit_all _ _ (by first | (simp only [iv_length, List.length_set, List.length_replicate, *]; done) | (simp [iv_length, *]; done) | (simp [Value.cells, iv_length, *]; done) | omega | (simp [Value.cells, iv_length] <;> omega)) | (simp [blit, List.drop_append, List.take_append, iv_length, *]; done)) (fun w13 H => ?_)
        dsimp only [List.set] at H
        refine wc_nil rfl ?_
        refine n_blk ?_
        refine n_sq ?_
        refine wn_seq (by kernel_rfl) ?_
        refine wn_seq (by kernel_rfl) ?_
        refine wn_seq (by kernel_rfl) ?_
        refine wn_reg 18 (by kernel_rfl) ?_
        refine wc_run (T' := [(1, .pointer (some ⟨b1, 0, none⟩)), (3, .pointer (some ⟨b3, 0, none⟩)), (21, .pointer (some ⟨b1, 0, none⟩))]) (L2 := (rng 1 17)) 1 [1, 3, 21] (by kernel_rfl) ?_
        refine wc_ld (b := b1) (off := 0) (some 22) 45 (.int .u8 k) (by kernel_rfl) (Ld.ent1 H 1 rfl (by kernel_rfl) (by rfl)) ?_
        refine wc_run (T' := [(1, .pointer (some ⟨b1, 0, none⟩)), (3, .pointer (some ⟨b3, 0, none⟩)), (24, .bool (k != (3 : Int)))]) (L2 := (rng 4 14)) 2 [1, 3, 24] (by kernel_rfl) ?_
        refine wc_if (k != (3 : Int)) (rng 8 10) ([(1, .pointer (some ⟨b1, 0, none⟩)), (3, .pointer (some ⟨b3, 0, none⟩)), (28, .bool ((k != (3 : Int)) && (decide (t ≥ (32 : Int)))))]) (fun hg14 K => ?_) (fun hg14 K => ?_) ?_
        · rw [hg14] at K ⊢
          have hg14 := bneT hg14
          refine wc_run (T' := [(1, .pointer (some ⟨b1, 0, none⟩)), (3, .pointer (some ⟨b3, 0, none⟩)), (24, .bool true), (25, .pointer (some ⟨b1, 2, none⟩))]) (L2 := (rng 5 13)) 1 [1, 3, 24, 25] (by kernel_rfl) ?_
          refine wc_ld (b := b1) (off := 2) (some 26) 22 (.int .u64 t) (by kernel_rfl) (Ld.ent1 H 1 rfl (by kernel_rfl) (by rfl)) ?_
          refine wc_run (T' := [(1, .pointer (some ⟨b1, 0, none⟩)), (3, .pointer (some ⟨b3, 0, none⟩)), (28, .bool (decide (t ≥ (32 : Int))))]) (L2 := (rng 8 10)) 2 [1, 3, 28] (by kernel_rfl) ?_
          exact K
        · rw [hg14] at K ⊢
          have hg14 := bneF hg14
          refine wc_run (T' := [(1, .pointer (some ⟨b1, 0, none⟩)), (3, .pointer (some ⟨b3, 0, none⟩)), (28, .bool false)]) (L2 := (rng 8 10)) 4 [1, 3, 28] (by kernel_rfl) ?_
          exact K
        refine wc_run (T' := [(1, .pointer (some ⟨b1, 0, none⟩)), (3, .pointer (some ⟨b3, 0, none⟩)), (29, .bool ((k != (3 : Int)) && (decide (t ≥ (32 : Int)))))]) (L2 := (rng 9 9)) 1 [1, 3, 29] (by kernel_rfl) ?_
        refine wc_if ((k != (3 : Int)) && (decide (t ≥ (32 : Int)))) (rng 18 0) ([(3, .pointer (some ⟨b3, 0, none⟩)), (38, .bool (((k != (3 : Int)) && (decide (t ≥ (32 : Int)))) || ((k != (2 : Int)) && (a == (0 : Int)))))]) (fun hg15 K => ?_) (fun hg15 K => ?_) ?_
        · rw [hg15] at K ⊢
          try simp only [Bool.and_eq_true, Bool.or_eq_true, Bool.and_eq_false_iff, Bool.or_eq_false_iff, decide_eq_true_eq, decide_eq_false_iff_not, Bool.not_eq_true', Bool.not_eq_false', beq_iff_eq, bne_iff_ne, ne_eq, beq_eq_false_iff_ne, bne_eq_false_iff_eq, Decidable.not_not, cond_true, cond_false] at hg15
          refine wc_run (T' := [(3, .pointer (some ⟨b3, 0, none⟩)), (38, .bool true)]) (L2 := (rng 18 0)) 9 [3, 38] (by kernel_rfl) ?_
          exact K
        · rw [hg15] at K ⊢
          try simp only [Bool.and_eq_true, Bool.or_eq_true, Bool.and_eq_false_iff, Bool.or_eq_false_iff, decide_eq_true_eq, decide_eq_false_iff_not, Bool.not_eq_true', Bool.not_eq_false', beq_iff_eq, bne_iff_ne, ne_eq, beq_eq_false_iff_ne, bne_eq_false_iff_eq, Decidable.not_not, cond_true, cond_false] at hg15
          refine wc_run (T' := [(1, .pointer (some ⟨b1, 0, none⟩)), (3, .pointer (some ⟨b3, 0, none⟩)), (29, .bool false), (30, .pointer (some ⟨b1, 0, none⟩))]) (L2 := (rng 10 8)) 1 [1, 3, 29, 30] (by kernel_rfl) ?_
          refine wc_ld (b := b1) (off := 0) (some 31) 45 (.int .u8 k) (by kernel_rfl) (Ld.ent1 H 1 rfl (by kernel_rfl) (by rfl)) ?_
          refine wc_run (T' := [(1, .pointer (some ⟨b1, 0, none⟩)), (3, .pointer (some ⟨b3, 0, none⟩)), (29, .bool false), (33, .bool (k != (2 : Int)))]) (L2 := (rng 13 5)) 2 [1, 3, 29, 33] (by kernel_rfl) ?_
          refine wc_if (k != (2 : Int)) (rng 17 1) ([(3, .pointer (some ⟨b3, 0, none⟩)), (29, .bool false), (37, .bool ((k != (2 : Int)) && (a == (0 : Int))))]) (fun hg16 K => ?_) (fun hg16 K => ?_) ?_
          · rw [hg16] at K ⊢
            have hg16 := bneT hg16
            refine wc_run (T' := [(3, .pointer (some ⟨b3, 0, none⟩)), (29, .bool false), (33, .bool true), (34, .pointer (some ⟨b1, 3, none⟩))]) (L2 := (rng 14 4)) 1 [3, 29, 33, 34] (by kernel_rfl) ?_
            refine wc_ld (b := b1) (off := 3) (some 35) 22 (.int .u64 a) (by kernel_rfl) (Ld.ent1 H 1 rfl (by kernel_rfl) (by rfl)) ?_
            refine wc_run (T' := [(3, .pointer (some ⟨b3, 0, none⟩)), (29, .bool false), (37, .bool (a == (0 : Int)))]) (L2 := (rng 17 1)) 2 [3, 29, 37] (by kernel_rfl) ?_
            exact K
          · rw [hg16] at K ⊢
            have hg16 := bneF hg16
            refine wc_run (T' := [(3, .pointer (some ⟨b3, 0, none⟩)), (29, .bool false), (37, .bool false)]) (L2 := (rng 17 1)) 4 [3, 29, 37] (by kernel_rfl) ?_
            exact K
          refine wc_run (T' := [(3, .pointer (some ⟨b3, 0, none⟩)), (38, .bool ((k != (2 : Int)) && (a == (0 : Int))))]) (L2 := (rng 18 0)) 1 [3, 38] (by kernel_rfl) ?_
          exact K
        refine wc_nil rfl ?_
        refine n_sq ?_
        refine wn_cond (.tmp 38) (((k != (3 : Int)) && (decide (t ≥ (32 : Int)))) || ((k != (2 : Int)) && (a == (0 : Int)))) (by kernel_rfl) rfl (fun hc17 => ?_) (fun hc17 => ?_)
        · try simp only [Bool.and_eq_true, Bool.or_eq_true, Bool.and_eq_false_iff, Bool.or_eq_false_iff, decide_eq_true_eq, decide_eq_false_iff_not, Bool.not_eq_true', Bool.not_eq_false', beq_iff_eq, bne_iff_ne, ne_eq, beq_eq_false_iff_ne, bne_eq_false_iff_eq, Decidable.not_not, cond_true, cond_false] at hc17
          refine wn_seq (by kernel_rfl) ?_
          refine wn_reg 1 (by kernel_rfl) ?_
          refine wc_run (T' := [(2, .bool false)]) (L2 := (rng 1 0)) 1 [2] (by kernel_rfl) ?_
          refine wc_nil rfl ?_
          refine n_sq ?_
          refine wn_ret (by kernel_rfl) ?_
          refine r_sq ?_
          refine r_sq ?_
          refine r_blk ?_
          refine r_sq ?_
          refine ret1 _ (Or.inr rfl) Try.results24 rfl ?_
          have he18 : mayM k f t a n x y = false := by
            unfold mayM; rw [Bool.eq_iff_iff]; simp_all; try grind
          exact ⟨by first | (rw [he18]; done) | (rw [he18]; rfl), H.nil⟩
        · try simp only [Bool.and_eq_true, Bool.or_eq_true, Bool.and_eq_false_iff, Bool.or_eq_false_iff, decide_eq_true_eq, decide_eq_false_iff_not, Bool.not_eq_true', Bool.not_eq_false', beq_iff_eq, bne_iff_ne, ne_eq, beq_eq_false_iff_ne, bne_eq_false_iff_eq, Decidable.not_not, cond_true, cond_false] at hc17
          refine wn_skip (by kernel_rfl) ?_
          refine n_sq ?_
          refine wn_seq (by kernel_rfl) ?_
          refine wn_reg 6 (by kernel_rfl) ?_
          refine wc_run (T' := [(3, .pointer (some ⟨b3, 0, none⟩)), (39, .pointer (some ⟨b3, 0, none⟩))]) (L2 := (rng 1 5)) 1 [3, 39] (by kernel_rfl) ?_
          refine wc_st (b := b3) (off := 0) (Tb := 49) (vs := ([.int .u8 0])) (cs' := ([.int .u8 0, .int .u64 0, .int .u64 t, .int .u64 a, .int .u64 0] ++ ((iv .u8 (List.replicate 32 0)) ++ (iv .u8 (List.replicate 32 0))))) H 0 45 (.int .u8 0) 1 (by kernel_rfl) rfl rfl (by rfl) (by have h : ([.int .u8 k, .int .u64 0, .int .u64 t, .int .u64 a, .int .u64 0] ++ ((iv .u8 (List.replicate 32 0)) ++ (iv .u8 (List.replicate 32 0))) : List Value).length = 69 := (lenA (rfl : ([.int .u8 k, .int .u64 0, .int .u64 t, .int .u64 a, .int .u64 0] : List Value).length = 5) (lenA ((iv_length .u8 (List.replicate 32 0)).trans List.length_replicate) ((iv_length .u8 (List.replicate 32 0)).trans List.length_replicate))); omega) (by simp [Value.oneCell']) (by first | rfl | exact blit_all _ _ (by first | (simp only [iv_length, List.length_set, List.length_replicate, *]; done) | (simp [iv_length, *]; done) | (simp [Value.cells, iv_length, *]; done) | omega | (simp [Value.cells, iv_length] <;> omega)) | (simp [blit, List.drop_append, List.take_append, iv_length, *]; done)) (fun w19 H => ?_)
          dsimp only [List.set] at H
          refine wc_run (T' := [(3, .pointer (some ⟨b3, 0, none⟩)), (40, .pointer (some ⟨b3, 2, none⟩))]) (L2 := (rng 3 3)) 1 [3, 40] (by kernel_rfl) ?_
          refine wc_st (b := b3) (off := 2) (Tb := 49) (vs := ([.int .u64 0])) (cs' := ([.int .u8 0, .int .u64 0, .int .u64 0, .int .u64 a, .int .u64 0] ++ ((iv .u8 (List.replicate 32 0)) ++ (iv .u8 (List.replicate 32 0))))) H 0 22 (.int .u64 0) 1 (by kernel_rfl) rfl rfl (by rfl) (by have h : ([.int .u8 0, .int .u64 0, .int .u64 t, .int .u64 a, .int .u64 0] ++ ((iv .u8 (List.replicate 32 0)) ++ (iv .u8 (List.replicate 32 0))) : List Value).length = 69 := (lenA (rfl : ([.int .u8 0, .int .u64 0, .int .u64 t, .int .u64 a, .int .u64 0] : List Value).length = 5) (lenA ((iv_length .u8 (List.replicate 32 0)).trans List.length_replicate) ((iv_length .u8 (List.replicate 32 0)).trans List.length_replicate))); omega) (by simp [Value.oneCell']) (by first | rfl | exact blit_all _ _ (by first | (simp only [iv_length, List.length_set, List.length_replicate, *]; done) | (simp [iv_length, *]; done) | (simp [Value.cells, iv_length, *]; done) | omega | (simp [Value.cells, iv_length] <;> omega)) | (simp [blit, List.drop_append, List.take_append, iv_length, *]; done)) (fun w20 H => ?_)
          dsimp only [List.set] at H
          refine wc_run (T' := [(3, .pointer (some ⟨b3, 0, none⟩)), (41, .pointer (some ⟨b3, 3, none⟩))]) (L2 := (rng 5 1)) 1 [3, 41] (by kernel_rfl) ?_
          refine wc_st (b := b3) (off := 3) (Tb := 49) (vs := ([.int .u64 0])) (cs' := ([.int .u8 0, .int .u64 0, .int .u64 0, .int .u64 0, .int .u64 0] ++ ((iv .u8 (List.replicate 32 0)) ++ (iv .u8 (List.replicate 32 0))))) H 0 22 (.int .u64 0) 1 (by kernel_rfl) rfl rfl (by rfl) (by have h : ([.int .u8 0, .int .u64 0, .int .u64 0, .int .u64 a, .int .u64 0] ++ ((iv .u8 (List.replicate 32 0)) ++ (iv .u8 (List.replicate 32 0))) : List Value).length = 69 := (lenA (rfl : ([.int .u8 0, .int .u64 0, .int .u64 0, .int .u64 a, .int .u64 0] : List Value).length = 5) (lenA ((iv_length .u8 (List.replicate 32 0)).trans List.length_replicate) ((iv_length .u8 (List.replicate 32 0)).trans List.length_replicate))); omega) (by simp [Value.oneCell']) (by first | rfl | exact blit_all _ _ (by first | (simp only [iv_length, List.length_set, List.length_replicate, *]; done) | (simp [iv_length, *]; done) | (simp [Value.cells, iv_length, *]; done) | omega | (simp [Value.cells, iv_length] <;> omega)) | (simp [blit, List.drop_append, List.take_append, iv_length, *]; done)) (fun w21 H => ?_)
          dsimp only [List.set] at H
          refine wc_nil rfl ?_
          refine n_sq ?_
          refine wn_seq (by kernel_rfl) ?_
          refine wn_reg 4 (by kernel_rfl) ?_
          refine wc_ld (b := b3) (off := 0) (some 42) 49 (.agg ([.int .u8 0, .int .u64 0, .int .u64 0, .int .u64 0, .int .u64 0] ++ ((iv .u8 (List.replicate 32 0)) ++ (iv .u8 (List.replicate 32 0))) : List Value).toArray) (by kernel_rfl) (Ld.entW H 0 (n := 69) rfl (by kernel_rfl) (by exact (lenA (rfl : ([.int .u8 0, .int .u64 0, .int .u64 0, .int .u64 0, .int .u64 0] : List Value).length = 5) (lenA ((iv_length .u8 (List.replicate 32 0)).trans List.length_replicate) ((iv_length .u8 (List.replicate 32 0)).trans List.length_replicate))))) ?_
          refine wc_run (T' := [(42, .agg ([.int .u8 0, .int .u64 0, .int .u64 0, .int .u64 0, .int .u64 0] ++ ((iv .u8 (List.replicate 32 0)) ++ (iv .u8 (List.replicate 32 0))) : List Value).toArray), (43, .agg ([.int .u8 0] ++ ((iv .u64 (List.replicate 4 0)) ++ (iv .u8 (List.replicate 64 0))) : List Value).toArray)]) (L2 := (rng 2 2)) 1 [42, 43] (by kernel_rfl) ?_
          refine wc_eqA (c := true) 20 (some 44) 49 true ([.int .u8 0, .int .u64 0, .int .u64 0, .int .u64 0, .int .u64 0] ++ ((iv .u8 (List.replicate 32 0)) ++ (iv .u8 (List.replicate 32 0)))) ([.int .u8 0, .int .u64 0, .int .u64 0, .int .u64 0, .int .u64 0] ++ ((iv .u8 (List.replicate 32 0)) ++ (iv .u8 (List.replicate 32 0)))) (by kernel_rfl) (by have h := EqV.flat (P := Try.prog) (n := 20) (t := 49) (ks := ([CK.int .u8, CK.int .u64, CK.int .u64, CK.int .u64, CK.int .u64] ++ ((List.replicate 32 (CK.int .u8)) ++ (List.replicate 32 (CK.int .u8))))) (by kernel_rfl) (a := ([.int .u8 0, .int .u64 0, .int .u64 0, .int .u64 0, .int .u64 0] ++ ((iv .u8 (List.replicate 32 0)) ++ (iv .u8 (List.replicate 32 0))) : List Value)) (b := ([.int .u8 0, .int .u64 0, .int .u64 0, .int .u64 0, .int .u64 0] ++ ((iv .u8 (List.replicate 32 0)) ++ (iv .u8 (List.replicate 32 0))) : List Value)) (kdA rfl (kdA (kd_ivn (List.length_replicate)) (kd_ivn (List.length_replicate)))) (kdA rfl (kdA (kd_ivn (List.length_replicate)) (kd_ivn (List.length_replicate)))) true ⟨fun _ => rfl, fun _ => rfl⟩; exact h) ?_
          simp only [if_true, Bool.false_eq_true, if_false, Bool.not_true]
          refine wc_run (T' := [(2, .bool true)]) (L2 := (rng 4 0)) 1 [2] (by kernel_rfl) ?_
          refine wc_nil rfl ?_
          refine n_sq ?_
          refine wn_ret (by kernel_rfl) ?_
          refine r_sq ?_
          refine r_blk ?_
          refine r_sq ?_
          refine ret1 _ (Or.inr rfl) Try.results24 rfl ?_
          have he22 : mayM k f t a n x y = true := by
            unfold mayM; rw [Bool.eq_iff_iff]; simp_all; try grind
          exact ⟨by first | (rw [he22]; done) | (rw [he22]; rfl), H.nil⟩
    · have hc7 := ne_of_beq_false hc7
      refine wn_skip (by kernel_rfl) ?_
      refine n_sq ?_
      refine wn_seq (by kernel_rfl) ?_
      refine wn_reg 2 (by kernel_rfl) ?_
      refine wc_run (T' := [(1, .pointer (some ⟨b1, 0, none⟩)), (3, .pointer (some ⟨b3, 0, none⟩)), (10, .bool (k == (1 : Int)))]) (L2 := (rng 2 0)) 2 [1, 3, 10] (by kernel_rfl) ?_
      refine wc_nil rfl ?_
      refine n_sq ?_
      refine wn_cond (.tmp 10) (k == (1 : Int)) (by kernel_rfl) rfl (fun hc23 => ?_) (fun hc23 => ?_)
      · have hc23 := eq_of_beq hc23
        refine wn_exit 2 (by kernel_rfl) ?_
        refine e_sq ?_
        refine e_blkn (by kernel_rfl) ?_
        refine e_sq ?_
        refine e_blk ?_
        refine n_sq ?_
        refine wn_seq (by kernel_rfl) ?_
        refine wn_seq (by kernel_rfl) ?_
        refine wn_seq (by kernel_rfl) ?_
        refine wn_reg 18 (by kernel_rfl) ?_
        refine wc_run (T' := [(1, .pointer (some ⟨b1, 0, none⟩)), (3, .pointer (some ⟨b3, 0, none⟩)), (21, .pointer (some ⟨b1, 0, none⟩))]) (L2 := (rng 1 17)) 1 [1, 3, 21] (by kernel_rfl) ?_
        refine wc_ld (b := b1) (off := 0) (some 22) 45 (.int .u8 k) (by kernel_rfl) (Ld.ent1 H 1 rfl (by kernel_rfl) (by rfl)) ?_
        refine wc_run (T' := [(1, .pointer (some ⟨b1, 0, none⟩)), (3, .pointer (some ⟨b3, 0, none⟩)), (24, .bool (k != (3 : Int)))]) (L2 := (rng 4 14)) 2 [1, 3, 24] (by kernel_rfl) ?_
        refine wc_if (k != (3 : Int)) (rng 8 10) ([(1, .pointer (some ⟨b1, 0, none⟩)), (3, .pointer (some ⟨b3, 0, none⟩)), (28, .bool ((k != (3 : Int)) && (decide (t ≥ (32 : Int)))))]) (fun hg24 K => ?_) (fun hg24 K => ?_) ?_
        · rw [hg24] at K ⊢
          have hg24 := bneT hg24
          refine wc_run (T' := [(1, .pointer (some ⟨b1, 0, none⟩)), (3, .pointer (some ⟨b3, 0, none⟩)), (24, .bool true), (25, .pointer (some ⟨b1, 2, none⟩))]) (L2 := (rng 5 13)) 1 [1, 3, 24, 25] (by kernel_rfl) ?_
          refine wc_ld (b := b1) (off := 2) (some 26) 22 (.int .u64 t) (by kernel_rfl) (Ld.ent1 H 1 rfl (by kernel_rfl) (by rfl)) ?_
          refine wc_run (T' := [(1, .pointer (some ⟨b1, 0, none⟩)), (3, .pointer (some ⟨b3, 0, none⟩)), (28, .bool (decide (t ≥ (32 : Int))))]) (L2 := (rng 8 10)) 2 [1, 3, 28] (by kernel_rfl) ?_
          exact K
        · rw [hg24] at K ⊢
          have hg24 := bneF hg24
          refine wc_run (T' := [(1, .pointer (some ⟨b1, 0, none⟩)), (3, .pointer (some ⟨b3, 0, none⟩)), (28, .bool false)]) (L2 := (rng 8 10)) 4 [1, 3, 28] (by kernel_rfl) ?_
          exact K
        refine wc_run (T' := [(1, .pointer (some ⟨b1, 0, none⟩)), (3, .pointer (some ⟨b3, 0, none⟩)), (29, .bool ((k != (3 : Int)) && (decide (t ≥ (32 : Int)))))]) (L2 := (rng 9 9)) 1 [1, 3, 29] (by kernel_rfl) ?_
        refine wc_if ((k != (3 : Int)) && (decide (t ≥ (32 : Int)))) (rng 18 0) ([(3, .pointer (some ⟨b3, 0, none⟩)), (38, .bool (((k != (3 : Int)) && (decide (t ≥ (32 : Int)))) || ((k != (2 : Int)) && (a == (0 : Int)))))]) (fun hg25 K => ?_) (fun hg25 K => ?_) ?_
        · rw [hg25] at K ⊢
          try simp only [Bool.and_eq_true, Bool.or_eq_true, Bool.and_eq_false_iff, Bool.or_eq_false_iff, decide_eq_true_eq, decide_eq_false_iff_not, Bool.not_eq_true', Bool.not_eq_false', beq_iff_eq, bne_iff_ne, ne_eq, beq_eq_false_iff_ne, bne_eq_false_iff_eq, Decidable.not_not, cond_true, cond_false] at hg25
          refine wc_run (T' := [(3, .pointer (some ⟨b3, 0, none⟩)), (38, .bool true)]) (L2 := (rng 18 0)) 9 [3, 38] (by kernel_rfl) ?_
          exact K
        · rw [hg25] at K ⊢
          try simp only [Bool.and_eq_true, Bool.or_eq_true, Bool.and_eq_false_iff, Bool.or_eq_false_iff, decide_eq_true_eq, decide_eq_false_iff_not, Bool.not_eq_true', Bool.not_eq_false', beq_iff_eq, bne_iff_ne, ne_eq, beq_eq_false_iff_ne, bne_eq_false_iff_eq, Decidable.not_not, cond_true, cond_false] at hg25
          refine wc_run (T' := [(1, .pointer (some ⟨b1, 0, none⟩)), (3, .pointer (some ⟨b3, 0, none⟩)), (29, .bool false), (30, .pointer (some ⟨b1, 0, none⟩))]) (L2 := (rng 10 8)) 1 [1, 3, 29, 30] (by kernel_rfl) ?_
          refine wc_ld (b := b1) (off := 0) (some 31) 45 (.int .u8 k) (by kernel_rfl) (Ld.ent1 H 1 rfl (by kernel_rfl) (by rfl)) ?_
          refine wc_run (T' := [(1, .pointer (some ⟨b1, 0, none⟩)), (3, .pointer (some ⟨b3, 0, none⟩)), (29, .bool false), (33, .bool (k != (2 : Int)))]) (L2 := (rng 13 5)) 2 [1, 3, 29, 33] (by kernel_rfl) ?_
          refine wc_if (k != (2 : Int)) (rng 17 1) ([(3, .pointer (some ⟨b3, 0, none⟩)), (29, .bool false), (37, .bool ((k != (2 : Int)) && (a == (0 : Int))))]) (fun hg26 K => ?_) (fun hg26 K => ?_) ?_
          · rw [hg26] at K ⊢
            have hg26 := bneT hg26
            refine wc_run (T' := [(3, .pointer (some ⟨b3, 0, none⟩)), (29, .bool false), (33, .bool true), (34, .pointer (some ⟨b1, 3, none⟩))]) (L2 := (rng 14 4)) 1 [3, 29, 33, 34] (by kernel_rfl) ?_
            refine wc_ld (b := b1) (off := 3) (some 35) 22 (.int .u64 a) (by kernel_rfl) (Ld.ent1 H 1 rfl (by kernel_rfl) (by rfl)) ?_
            refine wc_run (T' := [(3, .pointer (some ⟨b3, 0, none⟩)), (29, .bool false), (37, .bool (a == (0 : Int)))]) (L2 := (rng 17 1)) 2 [3, 29, 37] (by kernel_rfl) ?_
            exact K
          · rw [hg26] at K ⊢
            have hg26 := bneF hg26
            refine wc_run (T' := [(3, .pointer (some ⟨b3, 0, none⟩)), (29, .bool false), (37, .bool false)]) (L2 := (rng 17 1)) 4 [3, 29, 37] (by kernel_rfl) ?_
            exact K
          refine wc_run (T' := [(3, .pointer (some ⟨b3, 0, none⟩)), (38, .bool ((k != (2 : Int)) && (a == (0 : Int))))]) (L2 := (rng 18 0)) 1 [3, 38] (by kernel_rfl) ?_
          exact K
        refine wc_nil rfl ?_
        refine n_sq ?_
        refine wn_cond (.tmp 38) (((k != (3 : Int)) && (decide (t ≥ (32 : Int)))) || ((k != (2 : Int)) && (a == (0 : Int)))) (by kernel_rfl) rfl (fun hc27 => ?_) (fun hc27 => ?_)
        · try simp only [Bool.and_eq_true, Bool.or_eq_true, Bool.and_eq_false_iff, Bool.or_eq_false_iff, decide_eq_true_eq, decide_eq_false_iff_not, Bool.not_eq_true', Bool.not_eq_false', beq_iff_eq, bne_iff_ne, ne_eq, beq_eq_false_iff_ne, bne_eq_false_iff_eq, Decidable.not_not, cond_true, cond_false] at hc27
          refine wn_seq (by kernel_rfl) ?_
          refine wn_reg 1 (by kernel_rfl) ?_
          refine wc_run (T' := [(2, .bool false)]) (L2 := (rng 1 0)) 1 [2] (by kernel_rfl) ?_
          refine wc_nil rfl ?_
          refine n_sq ?_
          refine wn_ret (by kernel_rfl) ?_
          refine r_sq ?_
          refine r_sq ?_
          refine r_blk ?_
          refine r_sq ?_
          refine ret1 _ (Or.inr rfl) Try.results24 rfl ?_
          have he28 : mayM k f t a n x y = false := by
            unfold mayM; rw [Bool.eq_iff_iff]; simp_all; try grind
          exact ⟨by first | (rw [he28]; done) | (rw [he28]; rfl), H.nil⟩
        · try simp only [Bool.and_eq_true, Bool.or_eq_true, Bool.and_eq_false_iff, Bool.or_eq_false_iff, decide_eq_true_eq, decide_eq_false_iff_not, Bool.not_eq_true', Bool.not_eq_false', beq_iff_eq, bne_iff_ne, ne_eq, beq_eq_false_iff_ne, bne_eq_false_iff_eq, Decidable.not_not, cond_true, cond_false] at hc27
          refine wn_skip (by kernel_rfl) ?_
          refine n_sq ?_
          refine wn_seq (by kernel_rfl) ?_
          refine wn_reg 6 (by kernel_rfl) ?_
          refine wc_run (T' := [(3, .pointer (some ⟨b3, 0, none⟩)), (39, .pointer (some ⟨b3, 0, none⟩))]) (L2 := (rng 1 5)) 1 [3, 39] (by kernel_rfl) ?_
          refine wc_st (b := b3) (off := 0) (Tb := 49) (vs := ([.int .u8 0])) (cs' := ([.int .u8 0, .int .u64 f, .int .u64 t, .int .u64 a, .int .u64 n] ++ ((iv .u8 x) ++ (iv .u8 y)))) H 0 45 (.int .u8 0) 1 (by kernel_rfl) rfl rfl (by rfl) (by have h : ([.int .u8 k, .int .u64 f, .int .u64 t, .int .u64 a, .int .u64 n] ++ ((iv .u8 x) ++ (iv .u8 y)) : List Value).length = 69 := (lenA (rfl : ([.int .u8 k, .int .u64 f, .int .u64 t, .int .u64 a, .int .u64 n] : List Value).length = 5) (lenA ((iv_length .u8 x).trans hx) ((iv_length .u8 y).trans hy))); omega) (by simp [Value.oneCell']) (by first | rfl | exact blit_all _ _ (by first | (simp only [iv_length, List.length_set, List.length_replicate, *]; done) | (simp [iv_length, *]; done) | (simp [Value.cells, iv_length, *]; done) | omega | (simp [Value.cells, iv_length] <;> omega)) | (simp [blit, List.drop_append, List.take_append, iv_length, *]; done)) (fun w29 H => ?_)
          dsimp only [List.set] at H
          refine wc_run (T' := [(3, .pointer (some ⟨b3, 0, none⟩)), (40, .pointer (some ⟨b3, 2, none⟩))]) (L2 := (rng 3 3)) 1 [3, 40] (by kernel_rfl) ?_
          refine wc_st (b := b3) (off := 2) (Tb := 49) (vs := ([.int .u64 0])) (cs' := ([.int .u8 0, .int .u64 f, .int .u64 0, .int .u64 a, .int .u64 n] ++ ((iv .u8 x) ++ (iv .u8 y)))) H 0 22 (.int .u64 0) 1 (by kernel_rfl) rfl rfl (by rfl) (by have h : ([.int .u8 0, .int .u64 f, .int .u64 t, .int .u64 a, .int .u64 n] ++ ((iv .u8 x) ++ (iv .u8 y)) : List Value).length = 69 := (lenA (rfl : ([.int .u8 0, .int .u64 f, .int .u64 t, .int .u64 a, .int .u64 n] : List Value).length = 5) (lenA ((iv_length .u8 x).trans hx) ((iv_length .u8 y).trans hy))); omega) (by simp [Value.oneCell']) (by first | rfl | exact blit_all _ _ (by first | (simp only [iv_length, List.length_set, List.length_replicate, *]; done) | (simp [iv_length, *]; done) | (simp [Value.cells, iv_length, *]; done) | omega | (simp [Value.cells, iv_length] <;> omega)) | (simp [blit, List.drop_append, List.take_append, iv_length, *]; done)) (fun w30 H => ?_)
          dsimp only [List.set] at H
          refine wc_run (T' := [(3, .pointer (some ⟨b3, 0, none⟩)), (41, .pointer (some ⟨b3, 3, none⟩))]) (L2 := (rng 5 1)) 1 [3, 41] (by kernel_rfl) ?_
          refine wc_st (b := b3) (off := 3) (Tb := 49) (vs := ([.int .u64 0])) (cs' := ([.int .u8 0, .int .u64 f, .int .u64 0, .int .u64 0, .int .u64 n] ++ ((iv .u8 x) ++ (iv .u8 y)))) H 0 22 (.int .u64 0) 1 (by kernel_rfl) rfl rfl (by rfl) (by have h : ([.int .u8 0, .int .u64 f, .int .u64 0, .int .u64 a, .int .u64 n] ++ ((iv .u8 x) ++ (iv .u8 y)) : List Value).length = 69 := (lenA (rfl : ([.int .u8 0, .int .u64 f, .int .u64 0, .int .u64 a, .int .u64 n] : List Value).length = 5) (lenA ((iv_length .u8 x).trans hx) ((iv_length .u8 y).trans hy))); omega) (by simp [Value.oneCell']) (by first | rfl | exact blit_all _ _ (by first | (simp only [iv_length, List.length_set, List.length_replicate, *]; done) | (simp [iv_length, *]; done) | (simp [Value.cells, iv_length, *]; done) | omega | (simp [Value.cells, iv_length] <;> omega)) | (simp [blit, List.drop_append, List.take_append, iv_length, *]; done)) (fun w31 H => ?_)
          dsimp only [List.set] at H
          refine wc_nil rfl ?_
          refine n_sq ?_
          refine wn_seq (by kernel_rfl) ?_
          refine wn_reg 4 (by kernel_rfl) ?_
          refine wc_ld (b := b3) (off := 0) (some 42) 49 (.agg ([.int .u8 0, .int .u64 f, .int .u64 0, .int .u64 0, .int .u64 n] ++ ((iv .u8 x) ++ (iv .u8 y)) : List Value).toArray) (by kernel_rfl) (Ld.entW H 0 (n := 69) rfl (by kernel_rfl) (by exact (lenA (rfl : ([.int .u8 0, .int .u64 f, .int .u64 0, .int .u64 0, .int .u64 n] : List Value).length = 5) (lenA ((iv_length .u8 x).trans hx) ((iv_length .u8 y).trans hy))))) ?_
          refine wc_run (T' := [(42, .agg ([.int .u8 0, .int .u64 f, .int .u64 0, .int .u64 0, .int .u64 n] ++ ((iv .u8 x) ++ (iv .u8 y)) : List Value).toArray), (43, .agg ([.int .u8 0] ++ ((iv .u64 (List.replicate 4 0)) ++ (iv .u8 (List.replicate 64 0))) : List Value).toArray)]) (L2 := (rng 2 2)) 1 [42, 43] (by kernel_rfl) ?_
          refine wc_eqA (c := decide ((f = 0 ∧ n = 0) ∧ (x = (List.replicate 32 0) ∧ y = (List.replicate 32 0)))) 20 (some 44) 49 true ([.int .u8 0, .int .u64 f, .int .u64 0, .int .u64 0, .int .u64 n] ++ ((iv .u8 x) ++ (iv .u8 y))) ([.int .u8 0, .int .u64 0, .int .u64 0, .int .u64 0, .int .u64 0] ++ ((iv .u8 (List.replicate 32 0)) ++ (iv .u8 (List.replicate 32 0)))) (by kernel_rfl) (by have h := EqV.flat (P := Try.prog) (n := 20) (t := 49) (ks := ([CK.int .u8, CK.int .u64, CK.int .u64, CK.int .u64, CK.int .u64] ++ ((List.replicate 32 (CK.int .u8)) ++ (List.replicate 32 (CK.int .u8))))) (by kernel_rfl) (a := ([.int .u8 0, .int .u64 f, .int .u64 0, .int .u64 0, .int .u64 n] ++ ((iv .u8 x) ++ (iv .u8 y)) : List Value)) (b := ([.int .u8 0, .int .u64 0, .int .u64 0, .int .u64 0, .int .u64 0] ++ ((iv .u8 (List.replicate 32 0)) ++ (iv .u8 (List.replicate 32 0))) : List Value)) (kdA rfl (kdA (kd_ivn (hx)) (kd_ivn (hy)))) (kdA rfl (kdA (kd_ivn (List.length_replicate)) (kd_ivn (List.length_replicate)))) (decide ((f = 0 ∧ n = 0) ∧ (x = (List.replicate 32 0) ∧ y = (List.replicate 32 0)))) (dec_iff (eqA rfl (show ([.int .u8 0, .int .u64 f, .int .u64 0, .int .u64 0, .int .u64 n] : List Value) = [.int .u8 0, .int .u64 0, .int .u64 0, .int .u64 0, .int .u64 0] ↔ f = 0 ∧ n = 0 by simp) (eqA (((iv_length _ _).trans (hx)).trans ((iv_length _ _).trans (List.length_replicate)).symm) iv_inj iv_inj))); exact h) ?_
          simp only [if_true, Bool.false_eq_true, if_false]
          refine wc_run (T' := [(2, .bool (decide ((f = 0 ∧ n = 0) ∧ (x = (List.replicate 32 0) ∧ y = (List.replicate 32 0)))))]) (L2 := (rng 4 0)) 1 [2] (by kernel_rfl) ?_
          refine wc_nil rfl ?_
          refine n_sq ?_
          refine wn_ret (by kernel_rfl) ?_
          refine r_sq ?_
          refine r_blk ?_
          refine r_sq ?_
          refine ret1 _ (Or.inr rfl) Try.results24 rfl ?_
          have he32 : mayM k f t a n x y = decide ((f = 0 ∧ n = 0) ∧ (x = (List.replicate 32 0) ∧ y = (List.replicate 32 0))) := by
            unfold mayM; rw [Bool.eq_iff_iff]; simp_all; try grind
          exact ⟨by first | (rw [he32]; done) | (rw [he32]; rfl), H.nil⟩
      · have hc23 := ne_of_beq_false hc23
        refine wn_skip (by kernel_rfl) ?_
        refine n_sq ?_
        refine wn_exit 0 (by kernel_rfl) ?_
        refine e_blkn (by kernel_rfl) ?_
        refine e_sq ?_
        refine e_blkn (by kernel_rfl) ?_
        refine e_sq ?_
        refine e_blk ?_
        refine n_sq ?_
        refine wn_seq (by kernel_rfl) ?_
        refine wn_reg 1 (by kernel_rfl) ?_
        refine wc_run (T' := [(2, .bool false)]) (L2 := (rng 1 0)) 1 [2] (by kernel_rfl) ?_
        refine wc_nil rfl ?_
        refine n_sq ?_
        refine wn_ret (by kernel_rfl) ?_
        refine ret1 _ (Or.inr rfl) Try.results24 rfl ?_
        have he33 : mayM k f t a n x y = false := by
          unfold mayM; rw [Bool.eq_iff_iff]; simp_all; try grind
        exact ⟨by first | (rw [he33]; done) | (rw [he33]; rfl), H.nil⟩
  · have hc6 := ne_of_beq_false hc6
    refine wn_reg 2 (by kernel_rfl) ?_
    refine wc_run (T' := [(1, .pointer (some ⟨b1, 0, none⟩)), (3, .pointer (some ⟨b3, 0, none⟩)), (6, .int .u8 k), (7, .bool (k == (3 : Int)))]) (L2 := (rng 2 0)) 2 [1, 3, 6, 7] (by kernel_rfl) ?_
    refine wc_nil rfl ?_
    refine n_sq ?_
    refine wn_cond (.tmp 7) (k == (3 : Int)) (by kernel_rfl) rfl (fun hc34 => ?_) (fun hc34 => ?_)
    · have hc34 := eq_of_beq hc34
      refine wn_exit 1 (by kernel_rfl) ?_
      refine e_sq ?_
      refine e_sq ?_
      refine e_blk ?_
      refine n_sq ?_
      refine wn_seq (by kernel_rfl) ?_
      refine wn_seq (by kernel_rfl) ?_
      refine wn_reg 3 (by kernel_rfl) ?_
      refine wc_run (T' := [(1, .pointer (some ⟨b1, 0, none⟩)), (3, .pointer (some ⟨b3, 0, none⟩)), (12, .pointer (some ⟨b1, 1, none⟩))]) (L2 := (rng 1 2)) 1 [1, 3, 12] (by kernel_rfl) ?_
      refine wc_ld (b := b1) (off := 1) (some 13) 22 (.int .u64 f) (by kernel_rfl) (Ld.ent1 H 1 rfl (by kernel_rfl) (by rfl)) ?_
      refine wc_run (T' := [(1, .pointer (some ⟨b1, 0, none⟩)), (3, .pointer (some ⟨b3, 0, none⟩)), (14, .bool (decide (f ≥ (32 : Int))))]) (L2 := (rng 3 0)) 1 [1, 3, 14] (by kernel_rfl) ?_
      refine wc_nil rfl ?_
      refine n_sq ?_
      refine wn_cond (.tmp 14) (decide (f ≥ (32 : Int))) (by kernel_rfl) rfl (fun hc35 => ?_) (fun hc35 => ?_)
      · have hc35 := of_decide_eq_true hc35
        refine wn_seq (by kernel_rfl) ?_
        refine wn_reg 1 (by kernel_rfl) ?_
        refine wc_run (T' := [(2, .bool false)]) (L2 := (rng 1 0)) 1 [2] (by kernel_rfl) ?_
        refine wc_nil rfl ?_
        refine n_sq ?_
        refine wn_ret (by kernel_rfl) ?_
        refine r_sq ?_
        refine r_blk ?_
        refine r_sq ?_
        refine r_blk ?_
        refine r_sq ?_
        refine ret1 _ (Or.inr rfl) Try.results24 rfl ?_
        have he36 : mayM k f t a n x y = false := by
          unfold mayM; rw [Bool.eq_iff_iff]; simp_all; try grind
        exact ⟨by first | (rw [he36]; done) | (rw [he36]; rfl), H.nil⟩
      · have hc35 := of_decide_eq_false hc35
        refine wn_skip (by kernel_rfl) ?_
        refine n_sq ?_
        refine wn_reg 10 (by kernel_rfl) ?_
        refine wc_run (T' := [(1, .pointer (some ⟨b1, 0, none⟩)), (3, .pointer (some ⟨b3, 0, none⟩)), (15, .agg (iv .u8 (List.replicate 32 0)).toArray), (16, .agg (iv .u8 (List.replicate 32 0)).toArray), (17, .pointer (some ⟨b3, 1, none⟩))]) (L2 := (rng 3 7)) 3 [1, 3, 15, 16, 17] (by kernel_rfl) ?_
        refine wc_st (b := b3) (off := 1) (Tb := 49) (vs := ([.int .u64 0])) (cs' := ([.int .u8 k, .int .u64 0, .int .u64 t, .int .u64 a, .int .u64 n] ++ ((iv .u8 x) ++ (iv .u8 y)))) H 0 22 (.int .u64 0) 1 (by kernel_rfl) rfl rfl (by rfl) (by have h : ([.int .u8 k, .int .u64 f, .int .u64 t, .int .u64 a, .int .u64 n] ++ ((iv .u8 x) ++ (iv .u8 y)) : List Value).length = 69 := (lenA (rfl : ([.int .u8 k, .int .u64 f, .int .u64 t, .int .u64 a, .int .u64 n] : List Value).length = 5) (lenA ((iv_length .u8 x).trans hx) ((iv_length .u8 y).trans hy))); omega) (by simp [Value.oneCell']) (by first | rfl | exact blit_all _ _ (by first | (simp only [iv_length, List.length_set, List.length_replicate, *]; done) | (simp [iv_length, *]; done) | (simp [Value.cells, iv_length, *]; done) | omega | (simp [Value.cells, iv_length] <;> omega)) | (simp [blit, List.drop_append, List.take_append, iv_length, *]; done)) (fun w37 H => ?_)
        dsimp only [List.set] at H
        refine wc_run (T' := [(1, .pointer (some ⟨b1, 0, none⟩)), (3, .pointer (some ⟨b3, 0, none⟩)), (15, .agg (iv .u8 (List.replicate 32 0)).toArray), (16, .agg (iv .u8 (List.replicate 32 0)).toArray), (18, .pointer (some ⟨b3, 4, none⟩))]) (L2 := (rng 5 5)) 1 [1, 3, 15, 16, 18] (by kernel_rfl) ?_
        refine wc_st (b := b3) (off := 4) (Tb := 49) (vs := ([.int .u64 0])) (cs' := ([.int .u8 k, .int .u64 0, .int .u64 t, .int .u64 a, .int .u64 0] ++ ((iv .u8 x) ++ (iv .u8 y)))) H 0 22 (.int .u64 0) 1 (by kernel_rfl) rfl rfl (by rfl) (by have h : ([.int .u8 k, .int .u64 0, .int .u64 t, .int .u64 a, .int .u64 n] ++ ((iv .u8 x) ++ (iv .u8 y)) : List Value).length = 69 := (lenA (rfl : ([.int .u8 k, .int .u64 0, .int .u64 t, .int .u64 a, .int .u64 n] : List Value).length = 5) (lenA ((iv_length .u8 x).trans hx) ((iv_length .u8 y).trans hy))); omega) (by simp [Value.oneCell']) (by first | rfl | exact blit_all _ _ (by first | (simp only [iv_length, List.length_set, List.length_replicate, *]; done) | (simp [iv_length, *]; done) | (simp [Value.cells, iv_length, *]; done) | omega | (simp [Value.cells, iv_length] <;> omega)) | (simp [blit, List.drop_append, List.take_append, iv_length, *]; done)) (fun w38 H => ?_)
        dsimp only [List.set] at H
        refine wc_run (T' := [(1, .pointer (some ⟨b1, 0, none⟩)), (3, .pointer (some ⟨b3, 0, none⟩)), (15, .agg (iv .u8 (List.replicate 32 0)).toArray), (16, .agg (iv .u8 (List.replicate 32 0)).toArray), (19, .pointer (some ⟨b3, 5, none⟩))]) (L2 := (rng 7 3)) 1 [1, 3, 15, 16, 19] (by kernel_rfl) ?_
        refine wc_st (b := b3) (off := 5) (Tb := 49) (vs := (iv .u8 (List.replicate 32 0))) (cs' := ([.int .u8 k, .int .u64 0, .int .u64 t, .int .u64 a, .int .u64 0] ++ ((iv .u8 (List.replicate 32 0)) ++ (iv .u8 y)))) H 0 47 (.agg (iv .u8 (List.replicate 32 0)).toArray) 32 (by kernel_rfl) rfl rfl (by exact (iv_length .u8 (List.replicate 32 0)).trans List.length_replicate) (by have h : ([.int .u8 k, .int .u64 0, .int .u64 t, .int .u64 a, .int .u64 0] ++ ((iv .u8 x) ++ (iv .u8 y)) : List Value).length = 69 := (lenA (rfl : ([.int .u8 k, .int .u64 0, .int .u64 t, .int .u64 a, .int .u64 0] : List Value).length = 5) (lenA ((iv_length .u8 x).trans hx) ((iv_length .u8 y).trans hy))); omega) (by exact iv_flat _ _) (by first | rfl | exact blit_all _ _ (by first | (simp only [iv_length, List.length_set, List.length_replicate, *]; done) | (simp [iv_length, *]; done) | (simp [Value.cells, iv_length, *]; done) | omega | (simp [Value.cells, iv_length] <;> omega)) | (simp [blit, List.drop_append, List.take_append, iv_length, *]; done)) (fun w39 H => ?_)
        dsimp only [List.set] at H
        refine wc_run (T' := [(1, .pointer (some ⟨b1, 0, none⟩)), (3, .pointer (some ⟨b3, 0, none⟩)), (16, .agg (iv .u8 (List.replicate 32 0)).toArray), (20, .pointer (some ⟨b3, 37, none⟩))]) (L2 := (rng 9 1)) 1 [1, 3, 16, 20] (by kernel_rfl) ?_
        refine wc_st (b := b3) (off := 37) (Tb := 49) (vs := (iv .u8 (List.replicate 32 0))) (cs' := ([.int .u8 k, .int .u64 0, .int .u64 t, .int .u64 a, .int .u64 0] ++ ((iv .u8 (List.replicate 32 0)) ++ (iv .u8 (List.replicate 32 0))))) H 0 47 (.agg (iv .u8 (List.replicate 32 0)).toArray) 32 (by kernel_rfl) rfl rfl (by exact (iv_length .u8 (List.replicate 32 0)).trans List.length_replicate) (by have h : ([.int .u8 k, .int .u64 0, .int .u64 t, .int .u64 a, .int .u64 0] ++ ((iv .u8 (List.replicate 32 0)) ++ (iv .u8 y)) : List Value).length = 69 := (lenA (rfl : ([.int .u8 k, .int .u64 0, .int .u64 t, .int .u64 a, .int .u64 0] : List Value).length = 5) (lenA ((iv_length .u8 (List.replicate 32 0)).trans List.length_replicate) ((iv_length .u8 y).trans hy))); omega) (by exact iv_flat _ _) (by first | rfl | exact blit_all _ _ (by first | (simp only [iv_length, List.length_set, List.length_replicate, *]; done) | (simp [iv_length, *]; done) | (simp [Value.cells, iv_length, *]; done) | omega | (simp [Value.cells, iv_length] <;> omega)) | (simp [blit, List.drop_append, List.take_append, iv_length, *]; done)) (fun w40 H => ?_)
        dsimp only [List.set] at H
        refine wc_nil rfl ?_
        refine n_blk ?_
        refine n_sq ?_
        refine wn_seq (by kernel_rfl) ?_
        refine wn_seq (by kernel_rfl) ?_
        refine wn_seq (by kernel_rfl) ?_
        refine wn_reg 18 (by kernel_rfl) ?_
        refine wc_run (T' := [(1, .pointer (some ⟨b1, 0, none⟩)), (3, .pointer (some ⟨b3, 0, none⟩)), (21, .pointer (some ⟨b1, 0, none⟩))]) (L2 := (rng 1 17)) 1 [1, 3, 21] (by kernel_rfl) ?_
        refine wc_ld (b := b1) (off := 0) (some 22) 45 (.int .u8 k) (by kernel_rfl) (Ld.ent1 H 1 rfl (by kernel_rfl) (by rfl)) ?_
        refine wc_run (T' := [(1, .pointer (some ⟨b1, 0, none⟩)), (3, .pointer (some ⟨b3, 0, none⟩)), (24, .bool (k != (3 : Int)))]) (L2 := (rng 4 14)) 2 [1, 3, 24] (by kernel_rfl) ?_
        refine wc_if (k != (3 : Int)) (rng 8 10) ([(1, .pointer (some ⟨b1, 0, none⟩)), (3, .pointer (some ⟨b3, 0, none⟩)), (28, .bool ((k != (3 : Int)) && (decide (t ≥ (32 : Int)))))]) (fun hg41 K => ?_) (fun hg41 K => ?_) ?_
        · rw [hg41] at K ⊢
          have hg41 := bneT hg41
          refine wc_run (T' := [(1, .pointer (some ⟨b1, 0, none⟩)), (3, .pointer (some ⟨b3, 0, none⟩)), (24, .bool true), (25, .pointer (some ⟨b1, 2, none⟩))]) (L2 := (rng 5 13)) 1 [1, 3, 24, 25] (by kernel_rfl) ?_
          refine wc_ld (b := b1) (off := 2) (some 26) 22 (.int .u64 t) (by kernel_rfl) (Ld.ent1 H 1 rfl (by kernel_rfl) (by rfl)) ?_
          refine wc_run (T' := [(1, .pointer (some ⟨b1, 0, none⟩)), (3, .pointer (some ⟨b3, 0, none⟩)), (28, .bool (decide (t ≥ (32 : Int))))]) (L2 := (rng 8 10)) 2 [1, 3, 28] (by kernel_rfl) ?_
          exact K
        · rw [hg41] at K ⊢
          have hg41 := bneF hg41
          refine wc_run (T' := [(1, .pointer (some ⟨b1, 0, none⟩)), (3, .pointer (some ⟨b3, 0, none⟩)), (28, .bool false)]) (L2 := (rng 8 10)) 4 [1, 3, 28] (by kernel_rfl) ?_
          exact K
        refine wc_run (T' := [(1, .pointer (some ⟨b1, 0, none⟩)), (3, .pointer (some ⟨b3, 0, none⟩)), (29, .bool ((k != (3 : Int)) && (decide (t ≥ (32 : Int)))))]) (L2 := (rng 9 9)) 1 [1, 3, 29] (by kernel_rfl) ?_
        refine wc_if ((k != (3 : Int)) && (decide (t ≥ (32 : Int)))) (rng 18 0) ([(3, .pointer (some ⟨b3, 0, none⟩)), (38, .bool (((k != (3 : Int)) && (decide (t ≥ (32 : Int)))) || ((k != (2 : Int)) && (a == (0 : Int)))))]) (fun hg42 K => ?_) (fun hg42 K => ?_) ?_
        · rw [hg42] at K ⊢
          try simp only [Bool.and_eq_true, Bool.or_eq_true, Bool.and_eq_false_iff, Bool.or_eq_false_iff, decide_eq_true_eq, decide_eq_false_iff_not, Bool.not_eq_true', Bool.not_eq_false', beq_iff_eq, bne_iff_ne, ne_eq, beq_eq_false_iff_ne, bne_eq_false_iff_eq, Decidable.not_not, cond_true, cond_false] at hg42
          refine wc_run (T' := [(3, .pointer (some ⟨b3, 0, none⟩)), (38, .bool true)]) (L2 := (rng 18 0)) 9 [3, 38] (by kernel_rfl) ?_
          exact K
        · rw [hg42] at K ⊢
          try simp only [Bool.and_eq_true, Bool.or_eq_true, Bool.and_eq_false_iff, Bool.or_eq_false_iff, decide_eq_true_eq, decide_eq_false_iff_not, Bool.not_eq_true', Bool.not_eq_false', beq_iff_eq, bne_iff_ne, ne_eq, beq_eq_false_iff_ne, bne_eq_false_iff_eq, Decidable.not_not, cond_true, cond_false] at hg42
          refine wc_run (T' := [(1, .pointer (some ⟨b1, 0, none⟩)), (3, .pointer (some ⟨b3, 0, none⟩)), (29, .bool false), (30, .pointer (some ⟨b1, 0, none⟩))]) (L2 := (rng 10 8)) 1 [1, 3, 29, 30] (by kernel_rfl) ?_
          refine wc_ld (b := b1) (off := 0) (some 31) 45 (.int .u8 k) (by kernel_rfl) (Ld.ent1 H 1 rfl (by kernel_rfl) (by rfl)) ?_
          refine wc_run (T' := [(1, .pointer (some ⟨b1, 0, none⟩)), (3, .pointer (some ⟨b3, 0, none⟩)), (29, .bool false), (33, .bool (k != (2 : Int)))]) (L2 := (rng 13 5)) 2 [1, 3, 29, 33] (by kernel_rfl) ?_
          refine wc_if (k != (2 : Int)) (rng 17 1) ([(3, .pointer (some ⟨b3, 0, none⟩)), (29, .bool false), (37, .bool ((k != (2 : Int)) && (a == (0 : Int))))]) (fun hg43 K => ?_) (fun hg43 K => ?_) ?_
          · rw [hg43] at K ⊢
            have hg43 := bneT hg43
            refine wc_run (T' := [(3, .pointer (some ⟨b3, 0, none⟩)), (29, .bool false), (33, .bool true), (34, .pointer (some ⟨b1, 3, none⟩))]) (L2 := (rng 14 4)) 1 [3, 29, 33, 34] (by kernel_rfl) ?_
            refine wc_ld (b := b1) (off := 3) (some 35) 22 (.int .u64 a) (by kernel_rfl) (Ld.ent1 H 1 rfl (by kernel_rfl) (by rfl)) ?_
            refine wc_run (T' := [(3, .pointer (some ⟨b3, 0, none⟩)), (29, .bool false), (37, .bool (a == (0 : Int)))]) (L2 := (rng 17 1)) 2 [3, 29, 37] (by kernel_rfl) ?_
            exact K
          · rw [hg43] at K ⊢
            have hg43 := bneF hg43
            refine wc_run (T' := [(3, .pointer (some ⟨b3, 0, none⟩)), (29, .bool false), (37, .bool false)]) (L2 := (rng 17 1)) 4 [3, 29, 37] (by kernel_rfl) ?_
            exact K
          refine wc_run (T' := [(3, .pointer (some ⟨b3, 0, none⟩)), (38, .bool ((k != (2 : Int)) && (a == (0 : Int))))]) (L2 := (rng 18 0)) 1 [3, 38] (by kernel_rfl) ?_
          exact K
        refine wc_nil rfl ?_
        refine n_sq ?_
        refine wn_cond (.tmp 38) (((k != (3 : Int)) && (decide (t ≥ (32 : Int)))) || ((k != (2 : Int)) && (a == (0 : Int)))) (by kernel_rfl) rfl (fun hc44 => ?_) (fun hc44 => ?_)
        · try simp only [Bool.and_eq_true, Bool.or_eq_true, Bool.and_eq_false_iff, Bool.or_eq_false_iff, decide_eq_true_eq, decide_eq_false_iff_not, Bool.not_eq_true', Bool.not_eq_false', beq_iff_eq, bne_iff_ne, ne_eq, beq_eq_false_iff_ne, bne_eq_false_iff_eq, Decidable.not_not, cond_true, cond_false] at hc44
          refine wn_seq (by kernel_rfl) ?_
          refine wn_reg 1 (by kernel_rfl) ?_
          refine wc_run (T' := [(2, .bool false)]) (L2 := (rng 1 0)) 1 [2] (by kernel_rfl) ?_
          refine wc_nil rfl ?_
          refine n_sq ?_
          refine wn_ret (by kernel_rfl) ?_
          refine r_sq ?_
          refine r_sq ?_
          refine r_blk ?_
          refine r_sq ?_
          refine ret1 _ (Or.inr rfl) Try.results24 rfl ?_
          have he45 : mayM k f t a n x y = false := by
            unfold mayM; rw [Bool.eq_iff_iff]; simp_all; try grind
          exact ⟨by first | (rw [he45]; done) | (rw [he45]; rfl), H.nil⟩
        · try simp only [Bool.and_eq_true, Bool.or_eq_true, Bool.and_eq_false_iff, Bool.or_eq_false_iff, decide_eq_true_eq, decide_eq_false_iff_not, Bool.not_eq_true', Bool.not_eq_false', beq_iff_eq, bne_iff_ne, ne_eq, beq_eq_false_iff_ne, bne_eq_false_iff_eq, Decidable.not_not, cond_true, cond_false] at hc44
          refine wn_skip (by kernel_rfl) ?_
          refine n_sq ?_
          refine wn_seq (by kernel_rfl) ?_
          refine wn_reg 6 (by kernel_rfl) ?_
          refine wc_run (T' := [(3, .pointer (some ⟨b3, 0, none⟩)), (39, .pointer (some ⟨b3, 0, none⟩))]) (L2 := (rng 1 5)) 1 [3, 39] (by kernel_rfl) ?_
          refine wc_st (b := b3) (off := 0) (Tb := 49) (vs := ([.int .u8 0])) (cs' := ([.int .u8 0, .int .u64 0, .int .u64 t, .int .u64 a, .int .u64 0] ++ ((iv .u8 (List.replicate 32 0)) ++ (iv .u8 (List.replicate 32 0))))) H 0 45 (.int .u8 0) 1 (by kernel_rfl) rfl rfl (by rfl) (by have h : ([.int .u8 k, .int .u64 0, .int .u64 t, .int .u64 a, .int .u64 0] ++ ((iv .u8 (List.replicate 32 0)) ++ (iv .u8 (List.replicate 32 0))) : List Value).length = 69 := (lenA (rfl : ([.int .u8 k, .int .u64 0, .int .u64 t, .int .u64 a, .int .u64 0] : List Value).length = 5) (lenA ((iv_length .u8 (List.replicate 32 0)).trans List.length_replicate) ((iv_length .u8 (List.replicate 32 0)).trans List.length_replicate))); omega) (by simp [Value.oneCell']) (by first | rfl | exact blit_all _ _ (by first | (simp only [iv_length, List.length_set, List.length_replicate, *]; done) | (simp [iv_length, *]; done) | (simp [Value.cells, iv_length, *]; done) | omega | (simp [Value.cells, iv_length] <;> omega)) | (simp [blit, List.drop_append, List.take_append, iv_length, *]; done)) (fun w46 H => ?_)
          dsimp only [List.set] at H
          refine wc_run (T' := [(3, .pointer (some ⟨b3, 0, none⟩)), (40, .pointer (some ⟨b3, 2, none⟩))]) (L2 := (rng 3 3)) 1 [3, 40] (by kernel_rfl) ?_
          refine wc_st (b := b3) (off := 2) (Tb := 49) (vs := ([.int .u64 0])) (cs' := ([.int .u8 0, .int .u64 0, .int .u64 0, .int .u64 a, .int .u64 0] ++ ((iv .u8 (List.replicate 32 0)) ++ (iv .u8 (List.replicate 32 0))))) H 0 22 (.int .u64 0) 1 (by kernel_rfl) rfl rfl (by rfl) (by have h : ([.int .u8 0, .int .u64 0, .int .u64 t, .int .u64 a, .int .u64 0] ++ ((iv .u8 (List.replicate 32 0)) ++ (iv .u8 (List.replicate 32 0))) : List Value).length = 69 := (lenA (rfl : ([.int .u8 0, .int .u64 0, .int .u64 t, .int .u64 a, .int .u64 0] : List Value).length = 5) (lenA ((iv_length .u8 (List.replicate 32 0)).trans List.length_replicate) ((iv_length .u8 (List.replicate 32 0)).trans List.length_replicate))); omega) (by simp [Value.oneCell']) (by first | rfl | exact blit_all _ _ (by first | (simp only [iv_length, List.length_set, List.length_replicate, *]; done) | (simp [iv_length, *]; done) | (simp [Value.cells, iv_length, *]; done) | omega | (simp [Value.cells, iv_length] <;> omega)) | (simp [blit, List.drop_append, List.take_append, iv_length, *]; done)) (fun w47 H => ?_)
          dsimp only [List.set] at H
          refine wc_run (T' := [(3, .pointer (some ⟨b3, 0, none⟩)), (41, .pointer (some ⟨b3, 3, none⟩))]) (L2 := (rng 5 1)) 1 [3, 41] (by kernel_rfl) ?_
          refine wc_st (b := b3) (off := 3) (Tb := 49) (vs := ([.int .u64 0])) (cs' := ([.int .u8 0, .int .u64 0, .int .u64 0, .int .u64 0, .int .u64 0] ++ ((iv .u8 (List.replicate 32 0)) ++ (iv .u8 (List.replicate 32 0))))) H 0 22 (.int .u64 0) 1 (by kernel_rfl) rfl rfl (by rfl) (by have h : ([.int .u8 0, .int .u64 0, .int .u64 0, .int .u64 a, .int .u64 0] ++ ((iv .u8 (List.replicate 32 0)) ++ (iv .u8 (List.replicate 32 0))) : List Value).length = 69 := (lenA (rfl : ([.int .u8 0, .int .u64 0, .int .u64 0, .int .u64 a, .int .u64 0] : List Value).length = 5) (lenA ((iv_length .u8 (List.replicate 32 0)).trans List.length_replicate) ((iv_length .u8 (List.replicate 32 0)).trans List.length_replicate))); omega) (by simp [Value.oneCell']) (by first | rfl | exact blit_all _ _ (by first | (simp only [iv_length, List.length_set, List.length_replicate, *]; done) | (simp [iv_length, *]; done) | (simp [Value.cells, iv_length, *]; done) | omega | (simp [Value.cells, iv_length] <;> omega)) | (simp [blit, List.drop_append, List.take_append, iv_length, *]; done)) (fun w48 H => ?_)
          dsimp only [List.set] at H
          refine wc_nil rfl ?_
          refine n_sq ?_
          refine wn_seq (by kernel_rfl) ?_
          refine wn_reg 4 (by kernel_rfl) ?_
          refine wc_ld (b := b3) (off := 0) (some 42) 49 (.agg ([.int .u8 0, .int .u64 0, .int .u64 0, .int .u64 0, .int .u64 0] ++ ((iv .u8 (List.replicate 32 0)) ++ (iv .u8 (List.replicate 32 0))) : List Value).toArray) (by kernel_rfl) (Ld.entW H 0 (n := 69) rfl (by kernel_rfl) (by exact (lenA (rfl : ([.int .u8 0, .int .u64 0, .int .u64 0, .int .u64 0, .int .u64 0] : List Value).length = 5) (lenA ((iv_length .u8 (List.replicate 32 0)).trans List.length_replicate) ((iv_length .u8 (List.replicate 32 0)).trans List.length_replicate))))) ?_
          refine wc_run (T' := [(42, .agg ([.int .u8 0, .int .u64 0, .int .u64 0, .int .u64 0, .int .u64 0] ++ ((iv .u8 (List.replicate 32 0)) ++ (iv .u8 (List.replicate 32 0))) : List Value).toArray), (43, .agg ([.int .u8 0] ++ ((iv .u64 (List.replicate 4 0)) ++ (iv .u8 (List.replicate 64 0))) : List Value).toArray)]) (L2 := (rng 2 2)) 1 [42, 43] (by kernel_rfl) ?_
          refine wc_eqA (c := true) 20 (some 44) 49 true ([.int .u8 0, .int .u64 0, .int .u64 0, .int .u64 0, .int .u64 0] ++ ((iv .u8 (List.replicate 32 0)) ++ (iv .u8 (List.replicate 32 0)))) ([.int .u8 0, .int .u64 0, .int .u64 0, .int .u64 0, .int .u64 0] ++ ((iv .u8 (List.replicate 32 0)) ++ (iv .u8 (List.replicate 32 0)))) (by kernel_rfl) (by have h := EqV.flat (P := Try.prog) (n := 20) (t := 49) (ks := ([CK.int .u8, CK.int .u64, CK.int .u64, CK.int .u64, CK.int .u64] ++ ((List.replicate 32 (CK.int .u8)) ++ (List.replicate 32 (CK.int .u8))))) (by kernel_rfl) (a := ([.int .u8 0, .int .u64 0, .int .u64 0, .int .u64 0, .int .u64 0] ++ ((iv .u8 (List.replicate 32 0)) ++ (iv .u8 (List.replicate 32 0))) : List Value)) (b := ([.int .u8 0, .int .u64 0, .int .u64 0, .int .u64 0, .int .u64 0] ++ ((iv .u8 (List.replicate 32 0)) ++ (iv .u8 (List.replicate 32 0))) : List Value)) (kdA rfl (kdA (kd_ivn (List.length_replicate)) (kd_ivn (List.length_replicate)))) (kdA rfl (kdA (kd_ivn (List.length_replicate)) (kd_ivn (List.length_replicate)))) true ⟨fun _ => rfl, fun _ => rfl⟩; exact h) ?_
          simp only [if_true, Bool.false_eq_true, if_false, Bool.not_true]
          refine wc_run (T' := [(2, .bool true)]) (L2 := (rng 4 0)) 1 [2] (by kernel_rfl) ?_
          refine wc_nil rfl ?_
          refine n_sq ?_
          refine wn_ret (by kernel_rfl) ?_
          refine r_sq ?_
          refine r_blk ?_
          refine r_sq ?_
          refine ret1 _ (Or.inr rfl) Try.results24 rfl ?_
          have he49 : mayM k f t a n x y = true := by
            unfold mayM; rw [Bool.eq_iff_iff]; simp_all; try grind
          exact ⟨by first | (rw [he49]; done) | (rw [he49]; rfl), H.nil⟩
    · have hc34 := ne_of_beq_false hc34
      refine wn_skip (by kernel_rfl) ?_
      refine n_sq ?_
      refine wn_seq (by kernel_rfl) ?_
      refine wn_reg 2 (by kernel_rfl) ?_
      refine wc_run (T' := [(1, .pointer (some ⟨b1, 0, none⟩)), (3, .pointer (some ⟨b3, 0, none⟩)), (10, .bool (k == (1 : Int)))]) (L2 := (rng 2 0)) 2 [1, 3, 10] (by kernel_rfl) ?_
      refine wc_nil rfl ?_
      refine n_sq ?_
      refine wn_cond (.tmp 10) (k == (1 : Int)) (by kernel_rfl) rfl (fun hc50 => ?_) (fun hc50 => ?_)
      · have hc50 := eq_of_beq hc50
        refine wn_exit 2 (by kernel_rfl) ?_
        refine e_sq ?_
        refine e_blkn (by kernel_rfl) ?_
        refine e_sq ?_
        refine e_blk ?_
        refine n_sq ?_
        refine wn_seq (by kernel_rfl) ?_
        refine wn_seq (by kernel_rfl) ?_
        refine wn_seq (by kernel_rfl) ?_
        refine wn_reg 18 (by kernel_rfl) ?_
        refine wc_run (T' := [(1, .pointer (some ⟨b1, 0, none⟩)), (3, .pointer (some ⟨b3, 0, none⟩)), (21, .pointer (some ⟨b1, 0, none⟩))]) (L2 := (rng 1 17)) 1 [1, 3, 21] (by kernel_rfl) ?_
        refine wc_ld (b := b1) (off := 0) (some 22) 45 (.int .u8 k) (by kernel_rfl) (Ld.ent1 H 1 rfl (by kernel_rfl) (by rfl)) ?_
        refine wc_run (T' := [(1, .pointer (some ⟨b1, 0, none⟩)), (3, .pointer (some ⟨b3, 0, none⟩)), (24, .bool (k != (3 : Int)))]) (L2 := (rng 4 14)) 2 [1, 3, 24] (by kernel_rfl) ?_
        refine wc_if (k != (3 : Int)) (rng 8 10) ([(1, .pointer (some ⟨b1, 0, none⟩)), (3, .pointer (some ⟨b3, 0, none⟩)), (28, .bool ((k != (3 : Int)) && (decide (t ≥ (32 : Int)))))]) (fun hg51 K => ?_) (fun hg51 K => ?_) ?_
        · rw [hg51] at K ⊢
          have hg51 := bneT hg51
          refine wc_run (T' := [(1, .pointer (some ⟨b1, 0, none⟩)), (3, .pointer (some ⟨b3, 0, none⟩)), (24, .bool true), (25, .pointer (some ⟨b1, 2, none⟩))]) (L2 := (rng 5 13)) 1 [1, 3, 24, 25] (by kernel_rfl) ?_
          refine wc_ld (b := b1) (off := 2) (some 26) 22 (.int .u64 t) (by kernel_rfl) (Ld.ent1 H 1 rfl (by kernel_rfl) (by rfl)) ?_
          refine wc_run (T' := [(1, .pointer (some ⟨b1, 0, none⟩)), (3, .pointer (some ⟨b3, 0, none⟩)), (28, .bool (decide (t ≥ (32 : Int))))]) (L2 := (rng 8 10)) 2 [1, 3, 28] (by kernel_rfl) ?_
          exact K
        · rw [hg51] at K ⊢
          have hg51 := bneF hg51
          refine wc_run (T' := [(1, .pointer (some ⟨b1, 0, none⟩)), (3, .pointer (some ⟨b3, 0, none⟩)), (28, .bool false)]) (L2 := (rng 8 10)) 4 [1, 3, 28] (by kernel_rfl) ?_
          exact K
        refine wc_run (T' := [(1, .pointer (some ⟨b1, 0, none⟩)), (3, .pointer (some ⟨b3, 0, none⟩)), (29, .bool ((k != (3 : Int)) && (decide (t ≥ (32 : Int)))))]) (L2 := (rng 9 9)) 1 [1, 3, 29] (by kernel_rfl) ?_
        refine wc_if ((k != (3 : Int)) && (decide (t ≥ (32 : Int)))) (rng 18 0) ([(3, .pointer (some ⟨b3, 0, none⟩)), (38, .bool (((k != (3 : Int)) && (decide (t ≥ (32 : Int)))) || ((k != (2 : Int)) && (a == (0 : Int)))))]) (fun hg52 K => ?_) (fun hg52 K => ?_) ?_
        · rw [hg52] at K ⊢
          try simp only [Bool.and_eq_true, Bool.or_eq_true, Bool.and_eq_false_iff, Bool.or_eq_false_iff, decide_eq_true_eq, decide_eq_false_iff_not, Bool.not_eq_true', Bool.not_eq_false', beq_iff_eq, bne_iff_ne, ne_eq, beq_eq_false_iff_ne, bne_eq_false_iff_eq, Decidable.not_not, cond_true, cond_false] at hg52
          refine wc_run (T' := [(3, .pointer (some ⟨b3, 0, none⟩)), (38, .bool true)]) (L2 := (rng 18 0)) 9 [3, 38] (by kernel_rfl) ?_
          exact K
        · rw [hg52] at K ⊢
          try simp only [Bool.and_eq_true, Bool.or_eq_true, Bool.and_eq_false_iff, Bool.or_eq_false_iff, decide_eq_true_eq, decide_eq_false_iff_not, Bool.not_eq_true', Bool.not_eq_false', beq_iff_eq, bne_iff_ne, ne_eq, beq_eq_false_iff_ne, bne_eq_false_iff_eq, Decidable.not_not, cond_true, cond_false] at hg52
          refine wc_run (T' := [(1, .pointer (some ⟨b1, 0, none⟩)), (3, .pointer (some ⟨b3, 0, none⟩)), (29, .bool false), (30, .pointer (some ⟨b1, 0, none⟩))]) (L2 := (rng 10 8)) 1 [1, 3, 29, 30] (by kernel_rfl) ?_
          refine wc_ld (b := b1) (off := 0) (some 31) 45 (.int .u8 k) (by kernel_rfl) (Ld.ent1 H 1 rfl (by kernel_rfl) (by rfl)) ?_
          refine wc_run (T' := [(1, .pointer (some ⟨b1, 0, none⟩)), (3, .pointer (some ⟨b3, 0, none⟩)), (29, .bool false), (33, .bool (k != (2 : Int)))]) (L2 := (rng 13 5)) 2 [1, 3, 29, 33] (by kernel_rfl) ?_
          refine wc_if (k != (2 : Int)) (rng 17 1) ([(3, .pointer (some ⟨b3, 0, none⟩)), (29, .bool false), (37, .bool ((k != (2 : Int)) && (a == (0 : Int))))]) (fun hg53 K => ?_) (fun hg53 K => ?_) ?_
          · rw [hg53] at K ⊢
            have hg53 := bneT hg53
            refine wc_run (T' := [(3, .pointer (some ⟨b3, 0, none⟩)), (29, .bool false), (33, .bool true), (34, .pointer (some ⟨b1, 3, none⟩))]) (L2 := (rng 14 4)) 1 [3, 29, 33, 34] (by kernel_rfl) ?_
            refine wc_ld (b := b1) (off := 3) (some 35) 22 (.int .u64 a) (by kernel_rfl) (Ld.ent1 H 1 rfl (by kernel_rfl) (by rfl)) ?_
            refine wc_run (T' := [(3, .pointer (some ⟨b3, 0, none⟩)), (29, .bool false), (37, .bool (a == (0 : Int)))]) (L2 := (rng 17 1)) 2 [3, 29, 37] (by kernel_rfl) ?_
            exact K
          · rw [hg53] at K ⊢
            have hg53 := bneF hg53
            refine wc_run (T' := [(3, .pointer (some ⟨b3, 0, none⟩)), (29, .bool false), (37, .bool false)]) (L2 := (rng 17 1)) 4 [3, 29, 37] (by kernel_rfl) ?_
            exact K
          refine wc_run (T' := [(3, .pointer (some ⟨b3, 0, none⟩)), (38, .bool ((k != (2 : Int)) && (a == (0 : Int))))]) (L2 := (rng 18 0)) 1 [3, 38] (by kernel_rfl) ?_
          exact K
        refine wc_nil rfl ?_
        refine n_sq ?_
        refine wn_cond (.tmp 38) (((k != (3 : Int)) && (decide (t ≥ (32 : Int)))) || ((k != (2 : Int)) && (a == (0 : Int)))) (by kernel_rfl) rfl (fun hc54 => ?_) (fun hc54 => ?_)
        · try simp only [Bool.and_eq_true, Bool.or_eq_true, Bool.and_eq_false_iff, Bool.or_eq_false_iff, decide_eq_true_eq, decide_eq_false_iff_not, Bool.not_eq_true', Bool.not_eq_false', beq_iff_eq, bne_iff_ne, ne_eq, beq_eq_false_iff_ne, bne_eq_false_iff_eq, Decidable.not_not, cond_true, cond_false] at hc54
          refine wn_seq (by kernel_rfl) ?_
          refine wn_reg 1 (by kernel_rfl) ?_
          refine wc_run (T' := [(2, .bool false)]) (L2 := (rng 1 0)) 1 [2] (by kernel_rfl) ?_
          refine wc_nil rfl ?_
          refine n_sq ?_
          refine wn_ret (by kernel_rfl) ?_
          refine r_sq ?_
          refine r_sq ?_
          refine r_blk ?_
          refine r_sq ?_
          refine ret1 _ (Or.inr rfl) Try.results24 rfl ?_
          have he55 : mayM k f t a n x y = false := by
            unfold mayM; rw [Bool.eq_iff_iff]; simp_all; try grind
          exact ⟨by first | (rw [he55]; done) | (rw [he55]; rfl), H.nil⟩
        · try simp only [Bool.and_eq_true, Bool.or_eq_true, Bool.and_eq_false_iff, Bool.or_eq_false_iff, decide_eq_true_eq, decide_eq_false_iff_not, Bool.not_eq_true', Bool.not_eq_false', beq_iff_eq, bne_iff_ne, ne_eq, beq_eq_false_iff_ne, bne_eq_false_iff_eq, Decidable.not_not, cond_true, cond_false] at hc54
          refine wn_skip (by kernel_rfl) ?_
          refine n_sq ?_
          refine wn_seq (by kernel_rfl) ?_
          refine wn_reg 6 (by kernel_rfl) ?_
          refine wc_run (T' := [(3, .pointer (some ⟨b3, 0, none⟩)), (39, .pointer (some ⟨b3, 0, none⟩))]) (L2 := (rng 1 5)) 1 [3, 39] (by kernel_rfl) ?_
          refine wc_st (b := b3) (off := 0) (Tb := 49) (vs := ([.int .u8 0])) (cs' := ([.int .u8 0, .int .u64 f, .int .u64 t, .int .u64 a, .int .u64 n] ++ ((iv .u8 x) ++ (iv .u8 y)))) H 0 45 (.int .u8 0) 1 (by kernel_rfl) rfl rfl (by rfl) (by have h : ([.int .u8 k, .int .u64 f, .int .u64 t, .int .u64 a, .int .u64 n] ++ ((iv .u8 x) ++ (iv .u8 y)) : List Value).length = 69 := (lenA (rfl : ([.int .u8 k, .int .u64 f, .int .u64 t, .int .u64 a, .int .u64 n] : List Value).length = 5) (lenA ((iv_length .u8 x).trans hx) ((iv_length .u8 y).trans hy))); omega) (by simp [Value.oneCell']) (by first | rfl | exact blit_all _ _ (by first | (simp only [iv_length, List.length_set, List.length_replicate, *]; done) | (simp [iv_length, *]; done) | (simp [Value.cells, iv_length, *]; done) | omega | (simp [Value.cells, iv_length] <;> omega)) | (simp [blit, List.drop_append, List.take_append, iv_length, *]; done)) (fun w56 H => ?_)
          dsimp only [List.set] at H
          refine wc_run (T' := [(3, .pointer (some ⟨b3, 0, none⟩)), (40, .pointer (some ⟨b3, 2, none⟩))]) (L2 := (rng 3 3)) 1 [3, 40] (by kernel_rfl) ?_
          refine wc_st (b := b3) (off := 2) (Tb := 49) (vs := ([.int .u64 0])) (cs' := ([.int .u8 0, .int .u64 f, .int .u64 0, .int .u64 a, .int .u64 n] ++ ((iv .u8 x) ++ (iv .u8 y)))) H 0 22 (.int .u64 0) 1 (by kernel_rfl) rfl rfl (by rfl) (by have h : ([.int .u8 0, .int .u64 f, .int .u64 t, .int .u64 a, .int .u64 n] ++ ((iv .u8 x) ++ (iv .u8 y)) : List Value).length = 69 := (lenA (rfl : ([.int .u8 0, .int .u64 f, .int .u64 t, .int .u64 a, .int .u64 n] : List Value).length = 5) (lenA ((iv_length .u8 x).trans hx) ((iv_length .u8 y).trans hy))); omega) (by simp [Value.oneCell']) (by first | rfl | exact blit_all _ _ (by first | (simp only [iv_length, List.length_set, List.length_replicate, *]; done) | (simp [iv_length, *]; done) | (simp [Value.cells, iv_length, *]; done) | omega | (simp [Value.cells, iv_length] <;> omega)) | (simp [blit, List.drop_append, List.take_append, iv_length, *]; done)) (fun w57 H => ?_)
          dsimp only [List.set] at H
          refine wc_run (T' := [(3, .pointer (some ⟨b3, 0, none⟩)), (41, .pointer (some ⟨b3, 3, none⟩))]) (L2 := (rng 5 1)) 1 [3, 41] (by kernel_rfl) ?_
          refine wc_st (b := b3) (off := 3) (Tb := 49) (vs := ([.int .u64 0])) (cs' := ([.int .u8 0, .int .u64 f, .int .u64 0, .int .u64 0, .int .u64 n] ++ ((iv .u8 x) ++ (iv .u8 y)))) H 0 22 (.int .u64 0) 1 (by kernel_rfl) rfl rfl (by rfl) (by have h : ([.int .u8 0, .int .u64 f, .int .u64 0, .int .u64 a, .int .u64 n] ++ ((iv .u8 x) ++ (iv .u8 y)) : List Value).length = 69 := (lenA (rfl : ([.int .u8 0, .int .u64 f, .int .u64 0, .int .u64 a, .int .u64 n] : List Value).length = 5) (lenA ((iv_length .u8 x).trans hx) ((iv_length .u8 y).trans hy))); omega) (by simp [Value.oneCell']) (by first | rfl | exact blit_all _ _ (by first | (simp only [iv_length, List.length_set, List.length_replicate, *]; done) | (simp [iv_length, *]; done) | (simp [Value.cells, iv_length, *]; done) | omega | (simp [Value.cells, iv_length] <;> omega)) | (simp [blit, List.drop_append, List.take_append, iv_length, *]; done)) (fun w58 H => ?_)
          dsimp only [List.set] at H
          refine wc_nil rfl ?_
          refine n_sq ?_
          refine wn_seq (by kernel_rfl) ?_
          refine wn_reg 4 (by kernel_rfl) ?_
          refine wc_ld (b := b3) (off := 0) (some 42) 49 (.agg ([.int .u8 0, .int .u64 f, .int .u64 0, .int .u64 0, .int .u64 n] ++ ((iv .u8 x) ++ (iv .u8 y)) : List Value).toArray) (by kernel_rfl) (Ld.entW H 0 (n := 69) rfl (by kernel_rfl) (by exact (lenA (rfl : ([.int .u8 0, .int .u64 f, .int .u64 0, .int .u64 0, .int .u64 n] : List Value).length = 5) (lenA ((iv_length .u8 x).trans hx) ((iv_length .u8 y).trans hy))))) ?_
          refine wc_run (T' := [(42, .agg ([.int .u8 0, .int .u64 f, .int .u64 0, .int .u64 0, .int .u64 n] ++ ((iv .u8 x) ++ (iv .u8 y)) : List Value).toArray), (43, .agg ([.int .u8 0] ++ ((iv .u64 (List.replicate 4 0)) ++ (iv .u8 (List.replicate 64 0))) : List Value).toArray)]) (L2 := (rng 2 2)) 1 [42, 43] (by kernel_rfl) ?_
          refine wc_eqA (c := decide ((f = 0 ∧ n = 0) ∧ (x = (List.replicate 32 0) ∧ y = (List.replicate 32 0)))) 20 (some 44) 49 true ([.int .u8 0, .int .u64 f, .int .u64 0, .int .u64 0, .int .u64 n] ++ ((iv .u8 x) ++ (iv .u8 y))) ([.int .u8 0, .int .u64 0, .int .u64 0, .int .u64 0, .int .u64 0] ++ ((iv .u8 (List.replicate 32 0)) ++ (iv .u8 (List.replicate 32 0)))) (by kernel_rfl) (by have h := EqV.flat (P := Try.prog) (n := 20) (t := 49) (ks := ([CK.int .u8, CK.int .u64, CK.int .u64, CK.int .u64, CK.int .u64] ++ ((List.replicate 32 (CK.int .u8)) ++ (List.replicate 32 (CK.int .u8))))) (by kernel_rfl) (a := ([.int .u8 0, .int .u64 f, .int .u64 0, .int .u64 0, .int .u64 n] ++ ((iv .u8 x) ++ (iv .u8 y)) : List Value)) (b := ([.int .u8 0, .int .u64 0, .int .u64 0, .int .u64 0, .int .u64 0] ++ ((iv .u8 (List.replicate 32 0)) ++ (iv .u8 (List.replicate 32 0))) : List Value)) (kdA rfl (kdA (kd_ivn (hx)) (kd_ivn (hy)))) (kdA rfl (kdA (kd_ivn (List.length_replicate)) (kd_ivn (List.length_replicate)))) (decide ((f = 0 ∧ n = 0) ∧ (x = (List.replicate 32 0) ∧ y = (List.replicate 32 0)))) (dec_iff (eqA rfl (show ([.int .u8 0, .int .u64 f, .int .u64 0, .int .u64 0, .int .u64 n] : List Value) = [.int .u8 0, .int .u64 0, .int .u64 0, .int .u64 0, .int .u64 0] ↔ f = 0 ∧ n = 0 by simp) (eqA (((iv_length _ _).trans (hx)).trans ((iv_length _ _).trans (List.length_replicate)).symm) iv_inj iv_inj))); exact h) ?_
          simp only [if_true, Bool.false_eq_true, if_false]
          refine wc_run (T' := [(2, .bool (decide ((f = 0 ∧ n = 0) ∧ (x = (List.replicate 32 0) ∧ y = (List.replicate 32 0)))))]) (L2 := (rng 4 0)) 1 [2] (by kernel_rfl) ?_
          refine wc_nil rfl ?_
          refine n_sq ?_
          refine wn_ret (by kernel_rfl) ?_
          refine r_sq ?_
          refine r_blk ?_
          refine r_sq ?_
          refine ret1 _ (Or.inr rfl) Try.results24 rfl ?_
          have he59 : mayM k f t a n x y = decide ((f = 0 ∧ n = 0) ∧ (x = (List.replicate 32 0) ∧ y = (List.replicate 32 0))) := by
            unfold mayM; rw [Bool.eq_iff_iff]; simp_all; try grind
          exact ⟨by first | (rw [he59]; done) | (rw [he59]; rfl), H.nil⟩
      · have hc50 := ne_of_beq_false hc50
        refine wn_skip (by kernel_rfl) ?_
        refine n_sq ?_
        refine wn_exit 0 (by kernel_rfl) ?_
        refine e_blkn (by kernel_rfl) ?_
        refine e_sq ?_
        refine e_blkn (by kernel_rfl) ?_
        refine e_sq ?_
        refine e_blk ?_
        refine n_sq ?_
        refine wn_seq (by kernel_rfl) ?_
        refine wn_reg 1 (by kernel_rfl) ?_
        refine wc_run (T' := [(2, .bool false)]) (L2 := (rng 1 0)) 1 [2] (by kernel_rfl) ?_
        refine wc_nil rfl ?_
        refine n_sq ?_
        refine wn_ret (by kernel_rfl) ?_
        refine ret1 _ (Or.inr rfl) Try.results24 rfl ?_
        have he60 : mayM k f t a n x y = false := by
          unfold mayM; rw [Bool.eq_iff_iff]; simp_all; try grind
        exact ⟨by first | (rw [he60]; done) | (rw [he60]; rfl), H.nil⟩

noncomputable def cd_proctorref07_May : Code := (Try.f25.body).getD .skip
theorem proctorref07_May (w : World) (k : Int) (f : Int) (t : Int) (a : Int) (n : Int) (x : List Int) (y : List Int) (hx : x.length = 32) (hy : y.length = 32) (hk : 0 ≤ k ∧ k < 256) (hf : 0 ≤ f ∧ f < 18446744073709551616) (ht : 0 ≤ t ∧ t < 18446744073709551616) (ha : 0 ≤ a ∧ a < 18446744073709551616) (hn : 0 ≤ n ∧ n < 18446744073709551616) (hxb : ∀ j, 0 ≤ x.getD j 0 ∧ x.getD j 0 < 256) (hyb : ∀ j, 0 ≤ y.getD j 0 ∧ y.getD j 0 < 256) :
    Calls Try.prog 25 #[.agg ([.int .u8 k, .int .u64 f, .int .u64 t, .int .u64 a, .int .u64 n] ++ ((iv .u8 x) ++ (iv .u8 y)) : List Value).toArray] w (fun e w' => e = .returned (.bool (mayM k f t a n x y)) ∧ Hp no w w' []) := by
  refine enter (args := [_]) (c := cd_proctorref07_May) (N := 59) Try.func25 (by kernel_rfl) (by kernel_rfl) (by simp) ?_
  have H := Hp.start w
  refine wn_seq (by kernel_rfl) ?_
  refine wn_reg 2 (by kernel_rfl) ?_
  refine wc_new H (some 1) (row ([.int .u8 k, .int .u64 f, .int .u64 t, .int .u64 a, .int .u64 n] ++ ((iv .u8 x) ++ (iv .u8 y))) 49) (fun r => .pointer (some ⟨r, 0, none⟩)) (by kernel_rfl) (fun b1 w2 H => ?_)
  refine wc_run (T' := [(1, .pointer (some ⟨b1, 0, none⟩))]) (L2 := (rng 2 0)) 1 [1] (by kernel_rfl) ?_
  refine wc_nil rfl ?_
  refine n_sq ?_
  refine wn_seq (by kernel_rfl) ?_
  refine wn_reg 16 (by kernel_rfl) ?_
  refine wc_run (T' := [(1, .pointer (some ⟨b1, 0, none⟩)), (4, .pointer (some ⟨b1, 4, none⟩))]) (L2 := (rng 1 15)) 1 [1, 4] (by kernel_rfl) ?_
  refine wc_ld (b := b1) (off := 4) (some 5) 22 (.int .u64 n) (by kernel_rfl) (Ld.ent1 H 0 rfl (by kernel_rfl) (by rfl)) ?_
  refine wc_run (T' := [(1, .pointer (some ⟨b1, 0, none⟩)), (7, .bool (n == (0 : Int)))]) (L2 := (rng 4 12)) 2 [1, 7] (by kernel_rfl) ?_
  refine wc_if (n == (0 : Int)) (rng 9 7) ([(1, .pointer (some ⟨b1, 0, none⟩)), (12, .bool ((n == (0 : Int)) && (decide (x = (List.replicate 32 0)))))]) (fun hg3 K => ?_) (fun hg3 K => ?_) ?_
  · rw [hg3] at K ⊢
    have hg3 := eq_of_beq hg3
    refine wc_run (T' := [(1, .pointer (some ⟨b1, 0, none⟩)), (7, .bool true), (8, .pointer (some ⟨b1, 5, none⟩))]) (L2 := (rng 5 11)) 1 [1, 7, 8] (by kernel_rfl) ?_
    refine wc_ld (b := b1) (off := 5) (some 9) 47 (.agg (iv .u8 x).toArray) (by kernel_rfl) (Ld.entA H 0 (n := 32) rfl (by kernel_rfl) (by kernel_rfl) (by have h : ([.int .u8 k, .int .u64 f, .int .u64 t, .int .u64 a, .int .u64 n] ++ ((iv .u8 x) ++ (iv .u8 y)) : List Value).length = 69 := (lenA (rfl : ([.int .u8 k, .int .u64 f, .int .u64 t, .int .u64 a, .int .u64 n] : List Value).length = 5) (lenA ((iv_length .u8 x).trans hx) ((iv_length .u8 y).trans hy))); omega) (by first | rfl | (simp [List.drop_append, List.take_append, iv_length, *]; done) | (simp [List.drop_append, List.take_append, iv_length, *]; exact List.take_of_length_le (by simp [iv_length, *])))) ?_
    refine wc_run (T' := [(1, .pointer (some ⟨b1, 0, none⟩)), (7, .bool true), (9, .agg (iv .u8 x).toArray), (10, .agg (iv .u8 (List.replicate 32 0)).toArray)]) (L2 := (rng 7 9)) 1 [1, 7, 9, 10] (by kernel_rfl) ?_
    refine wc_eqA (c := decide (x = (List.replicate 32 0))) 2 (some 11) 47 true (iv .u8 x) (iv .u8 (List.replicate 32 0)) (by kernel_rfl) (EqV.arrC (k := .u8) (n := 32) (by kernel_rfl) x (List.replicate 32 0) (by exact hx) (by exact List.length_replicate)) ?_
    simp only [if_true, Bool.false_eq_true, if_false]
    refine wc_run (T' := [(1, .pointer (some ⟨b1, 0, none⟩)), (12, .bool (decide (x = (List.replicate 32 0))))]) (L2 := (rng 9 7)) 1 [1, 12] (by kernel_rfl) ?_
    exact K
  · rw [hg3] at K ⊢
    have hg3 := ne_of_beq_false hg3
    refine wc_run (T' := [(1, .pointer (some ⟨b1, 0, none⟩)), (12, .bool false)]) (L2 := (rng 9 7)) 5 [1, 12] (by kernel_rfl) ?_
    exact K
  refine wc_run (T' := [(1, .pointer (some ⟨b1, 0, none⟩)), (13, .bool ((n == (0 : Int)) && (decide (x = (List.replicate 32 0)))))]) (L2 := (rng 10 6)) 1 [1, 13] (by kernel_rfl) ?_
  refine wc_if ((n == (0 : Int)) && (decide (x = (List.replicate 32 0)))) (rng 15 1) ([(1, .pointer (some ⟨b1, 0, none⟩)), (18, .bool (((n == (0 : Int)) && (decide (x = (List.replicate 32 0)))) && (decide (y = (List.replicate 32 0)))))]) (fun hg4 K => ?_) (fun hg4 K => ?_) ?_
  · rw [hg4] at K ⊢
    try simp only [Bool.and_eq_true, Bool.or_eq_true, Bool.and_eq_false_iff, Bool.or_eq_false_iff, decide_eq_true_eq, decide_eq_false_iff_not, Bool.not_eq_true', Bool.not_eq_false', beq_iff_eq, bne_iff_ne, ne_eq, beq_eq_false_iff_ne, bne_eq_false_iff_eq, Decidable.not_not, cond_true, cond_false] at hg4
    refine wc_run (T' := [(1, .pointer (some ⟨b1, 0, none⟩)), (13, .bool true), (14, .pointer (some ⟨b1, 37, none⟩))]) (L2 := (rng 11 5)) 1 [1, 13, 14] (by kernel_rfl) ?_
    refine wc_ld (b := b1) (off := 37) (some 15) 47 (.agg (iv .u8 y).toArray) (by kernel_rfl) (Ld.entA H 0 (n := 32) rfl (by kernel_rfl) (by kernel_rfl) (by have h : ([.int .u8 k, .int .u64 f, .int .u64 t, .int .u64 a, .int .u64 n] ++ ((iv .u8 x) ++ (iv .u8 y)) : List Value).length = 69 := (lenA (rfl : ([.int .u8 k, .int .u64 f, .int .u64 t, .int .u64 a, .int .u64 n] : List Value).length = 5) (lenA ((iv_length .u8 x).trans hx) ((iv_length .u8 y).trans hy))); omega) (by first | rfl | (simp [List.drop_append, List.take_append, iv_length, *]; done) | (simp [List.drop_append, List.take_append, iv_length, *]; exact List.take_of_length_le (by simp [iv_length, *])))) ?_
    refine wc_run (T' := [(1, .pointer (some ⟨b1, 0, none⟩)), (13, .bool true), (15, .agg (iv .u8 y).toArray), (16, .agg (iv .u8 (List.replicate 32 0)).toArray)]) (L2 := (rng 13 3)) 1 [1, 13, 15, 16] (by kernel_rfl) ?_
    refine wc_eqA (c := decide (y = (List.replicate 32 0))) 2 (some 17) 47 true (iv .u8 y) (iv .u8 (List.replicate 32 0)) (by kernel_rfl) (EqV.arrC (k := .u8) (n := 32) (by kernel_rfl) y (List.replicate 32 0) (by exact hy) (by exact List.length_replicate)) ?_
    simp only [if_true, Bool.false_eq_true, if_false]
    refine wc_run (T' := [(1, .pointer (some ⟨b1, 0, none⟩)), (18, .bool (decide (y = (List.replicate 32 0))))]) (L2 := (rng 15 1)) 1 [1, 18] (by kernel_rfl) ?_
    exact K
  · rw [hg4] at K ⊢
    try simp only [Bool.and_eq_true, Bool.or_eq_true, Bool.and_eq_false_iff, Bool.or_eq_false_iff, decide_eq_true_eq, decide_eq_false_iff_not, Bool.not_eq_true', Bool.not_eq_false', beq_iff_eq, bne_iff_ne, ne_eq, beq_eq_false_iff_ne, bne_eq_false_iff_eq, Decidable.not_not, cond_true, cond_false] at hg4
    refine wc_run (T' := [(1, .pointer (some ⟨b1, 0, none⟩)), (18, .bool false)]) (L2 := (rng 15 1)) 5 [1, 18] (by kernel_rfl) ?_
    exact K
  refine wc_run (T' := [(1, .pointer (some ⟨b1, 0, none⟩)), (3, .bool (((n == (0 : Int)) && (decide (x = (List.replicate 32 0)))) && (decide (y = (List.replicate 32 0)))))]) (L2 := (rng 16 0)) 1 [1, 3] (by kernel_rfl) ?_
  refine wc_nil rfl ?_
  refine n_sq ?_
  refine wn_seq (by kernel_rfl) ?_
  refine wn_seq (by kernel_rfl) ?_
  refine wn_reg 2 (by kernel_rfl) ?_
  refine wc_run (T' := [(1, .pointer (some ⟨b1, 0, none⟩)), (3, .bool (((n == (0 : Int)) && (decide (x = (List.replicate 32 0)))) && (decide (y = (List.replicate 32 0))))), (19, .pointer (some ⟨b1, 0, none⟩))]) (L2 := (rng 1 1)) 1 [1, 3, 19] (by kernel_rfl) ?_
  refine wc_ld (b := b1) (off := 0) (some 20) 45 (.int .u8 k) (by kernel_rfl) (Ld.ent1 H 0 rfl (by kernel_rfl) (by rfl)) ?_
  refine wc_nil rfl ?_
  refine n_sq ?_
  refine wn_block 0 (by kernel_rfl) ?_
  refine wn_seq (by kernel_rfl) ?_
  refine wn_reg 2 (by kernel_rfl) ?_
  refine wc_run (T' := [(1, .pointer (some ⟨b1, 0, none⟩)), (3, .bool (((n == (0 : Int)) && (decide (x = (List.replicate 32 0)))) && (decide (y = (List.replicate 32 0))))), (20, .int .u8 k), (21, .bool (k == (1 : Int)))]) (L2 := (rng 2 0)) 2 [1, 3, 20, 21] (by kernel_rfl) ?_
  refine wc_nil rfl ?_
  refine n_sq ?_
  refine wn_cond (.tmp 21) (k == (1 : Int)) (by kernel_rfl) rfl (fun hc5 => ?_) (fun hc5 => ?_)
  · have hc5 := eq_of_beq hc5
    refine wn_seq (by kernel_rfl) ?_
    refine wn_reg 17 (by kernel_rfl) ?_
    refine wc_run (T' := [(1, .pointer (some ⟨b1, 0, none⟩)), (3, .bool (((n == (0 : Int)) && (decide (x = (List.replicate 32 0)))) && (decide (y = (List.replicate 32 0))))), (23, .pointer (some ⟨b1, 1, none⟩))]) (L2 := (rng 1 16)) 1 [1, 3, 23] (by kernel_rfl) ?_
    refine wc_ld (b := b1) (off := 1) (some 24) 22 (.int .u64 f) (by kernel_rfl) (Ld.ent1 H 0 rfl (by kernel_rfl) (by rfl)) ?_
    refine wc_run (T' := [(1, .pointer (some ⟨b1, 0, none⟩)), (3, .bool (((n == (0 : Int)) && (decide (x = (List.replicate 32 0)))) && (decide (y = (List.replicate 32 0))))), (26, .bool (f == (0 : Int)))]) (L2 := (rng 4 13)) 2 [1, 3, 26] (by kernel_rfl) ?_
    refine wc_if (f == (0 : Int)) (rng 8 9) ([(1, .pointer (some ⟨b1, 0, none⟩)), (3, .bool (((n == (0 : Int)) && (decide (x = (List.replicate 32 0)))) && (decide (y = (List.replicate 32 0))))), (30, .bool ((f == (0 : Int)) && (decide (t < (32 : Int)))))]) (fun hg6 K => ?_) (fun hg6 K => ?_) ?_
    · rw [hg6] at K ⊢
      have hg6 := eq_of_beq hg6
      refine wc_run (T' := [(1, .pointer (some ⟨b1, 0, none⟩)), (3, .bool (((n == (0 : Int)) && (decide (x = (List.replicate 32 0)))) && (decide (y = (List.replicate 32 0))))), (26, .bool true), (27, .pointer (some ⟨b1, 2, none⟩))]) (L2 := (rng 5 12)) 1 [1, 3, 26, 27] (by kernel_rfl) ?_
      refine wc_ld (b := b1) (off := 2) (some 28) 22 (.int .u64 t) (by kernel_rfl) (Ld.ent1 H 0 rfl (by kernel_rfl) (by rfl)) ?_
      refine wc_run (T' := [(1, .pointer (some ⟨b1, 0, none⟩)), (3, .bool (((n == (0 : Int)) && (decide (x = (List.replicate 32 0)))) && (decide (y = (List.replicate 32 0))))), (30, .bool (decide (t < (32 : Int))))]) (L2 := (rng 8 9)) 2 [1, 3, 30] (by kernel_rfl) ?_
      exact K
    · rw [hg6] at K ⊢
      have hg6 := ne_of_beq_false hg6
      refine wc_run (T' := [(1, .pointer (some ⟨b1, 0, none⟩)), (3, .bool (((n == (0 : Int)) && (decide (x = (List.replicate 32 0)))) && (decide (y = (List.replicate 32 0))))), (30, .bool false)]) (L2 := (rng 8 9)) 4 [1, 3, 30] (by kernel_rfl) ?_
      exact K
    refine wc_run (T' := [(1, .pointer (some ⟨b1, 0, none⟩)), (3, .bool (((n == (0 : Int)) && (decide (x = (List.replicate 32 0)))) && (decide (y = (List.replicate 32 0))))), (31, .bool ((f == (0 : Int)) && (decide (t < (32 : Int)))))]) (L2 := (rng 9 8)) 1 [1, 3, 31] (by kernel_rfl) ?_
    refine wc_if ((f == (0 : Int)) && (decide (t < (32 : Int)))) (rng 13 4) ([(3, .bool (((n == (0 : Int)) && (decide (x = (List.replicate 32 0)))) && (decide (y = (List.replicate 32 0))))), (35, .bool (((f == (0 : Int)) && (decide (t < (32 : Int)))) && (decide (a > (0 : Int)))))]) (fun hg7 K => ?_) (fun hg7 K => ?_) ?_
    · rw [hg7] at K ⊢
      try simp only [Bool.and_eq_true, Bool.or_eq_true, Bool.and_eq_false_iff, Bool.or_eq_false_iff, decide_eq_true_eq, decide_eq_false_iff_not, Bool.not_eq_true', Bool.not_eq_false', beq_iff_eq, bne_iff_ne, ne_eq, beq_eq_false_iff_ne, bne_eq_false_iff_eq, Decidable.not_not, cond_true, cond_false] at hg7
      refine wc_run (T' := [(3, .bool (((n == (0 : Int)) && (decide (x = (List.replicate 32 0)))) && (decide (y = (List.replicate 32 0))))), (31, .bool true), (32, .pointer (some ⟨b1, 3, none⟩))]) (L2 := (rng 10 7)) 1 [3, 31, 32] (by kernel_rfl) ?_
      refine wc_ld (b := b1) (off := 3) (some 33) 22 (.int .u64 a) (by kernel_rfl) (Ld.ent1 H 0 rfl (by kernel_rfl) (by rfl)) ?_
      refine wc_run (T' := [(3, .bool (((n == (0 : Int)) && (decide (x = (List.replicate 32 0)))) && (decide (y = (List.replicate 32 0))))), (35, .bool (decide (a > (0 : Int))))]) (L2 := (rng 13 4)) 2 [3, 35] (by kernel_rfl) ?_
      exact K
    · rw [hg7] at K ⊢
      try simp only [Bool.and_eq_true, Bool.or_eq_true, Bool.and_eq_false_iff, Bool.or_eq_false_iff, decide_eq_true_eq, decide_eq_false_iff_not, Bool.not_eq_true', Bool.not_eq_false', beq_iff_eq, bne_iff_ne, ne_eq, beq_eq_false_iff_ne, bne_eq_false_iff_eq, Decidable.not_not, cond_true, cond_false] at hg7
      refine wc_run (T' := [(3, .bool (((n == (0 : Int)) && (decide (x = (List.replicate 32 0)))) && (decide (y = (List.replicate 32 0))))), (35, .bool false)]) (L2 := (rng 13 4)) 4 [3, 35] (by kernel_rfl) ?_
      exact K
    refine wc_run (T' := [(3, .bool (((n == (0 : Int)) && (decide (x = (List.replicate 32 0)))) && (decide (y = (List.replicate 32 0))))), (36, .bool (((f == (0 : Int)) && (decide (t < (32 : Int)))) && (decide (a > (0 : Int)))))]) (L2 := (rng 14 3)) 1 [3, 36] (by kernel_rfl) ?_
    refine wc_if (((f == (0 : Int)) && (decide (t < (32 : Int)))) && (decide (a > (0 : Int)))) (rng 16 1) ([(38, .bool ((((f == (0 : Int)) && (decide (t < (32 : Int)))) && (decide (a > (0 : Int)))) && (((n == (0 : Int)) && (decide (x = (List.replicate 32 0)))) && (decide (y = (List.replicate 32 0))))))]) (fun hg8 K => ?_) (fun hg8 K => ?_) ?_
    · rw [hg8] at K ⊢
      try simp only [Bool.and_eq_true, Bool.or_eq_true, Bool.and_eq_false_iff, Bool.or_eq_false_iff, decide_eq_true_eq, decide_eq_false_iff_not, Bool.not_eq_true', Bool.not_eq_false', beq_iff_eq, bne_iff_ne, ne_eq, beq_eq_false_iff_ne, bne_eq_false_iff_eq, Decidable.not_not, cond_true, cond_false] at hg8
      refine wc_run (T' := [(38, .bool (((n == (0 : Int)) && (decide (x = (List.replicate 32 0)))) && (decide (y = (List.replicate 32 0)))))]) (L2 := (rng 16 1)) 2 [38] (by kernel_rfl) ?_
      exact K
    · rw [hg8] at K ⊢
      try simp only [Bool.and_eq_true, Bool.or_eq_true, Bool.and_eq_false_iff, Bool.or_eq_false_iff, decide_eq_true_eq, decide_eq_false_iff_not, Bool.not_eq_true', Bool.not_eq_false', beq_iff_eq, bne_iff_ne, ne_eq, beq_eq_false_iff_ne, bne_eq_false_iff_eq, Decidable.not_not, cond_true, cond_false] at hg8
      refine wc_run (T' := [(38, .bool false)]) (L2 := (rng 16 1)) 2 [38] (by kernel_rfl) ?_
      exact K
    refine wc_run (T' := [(2, .bool ((((f == (0 : Int)) && (decide (t < (32 : Int)))) && (decide (a > (0 : Int)))) && (((n == (0 : Int)) && (decide (x = (List.replicate 32 0)))) && (decide (y = (List.replicate 32 0))))))]) (L2 := (rng 17 0)) 1 [2] (by kernel_rfl) ?_
    refine wc_nil rfl ?_
    refine n_sq ?_
    refine wn_ret (by kernel_rfl) ?_
    refine r_blk ?_
    refine r_sq ?_
    refine ret1 _ (Or.inr rfl) Try.results25 rfl ?_
    have he9 : mayM k f t a n x y = ((((f == (0 : Int)) && (decide (t < (32 : Int)))) && (decide (a > (0 : Int)))) && (((n == (0 : Int)) && (decide (x = (List.replicate 32 0)))) && (decide (y = (List.replicate 32 0))))) := by
      unfold mayM; rw [Bool.eq_iff_iff]; simp_all; try grind
    exact ⟨by first | (rw [he9]; done) | (rw [he9]; rfl), H.nil⟩
  · have hc5 := ne_of_beq_false hc5
    refine wn_seq (by kernel_rfl) ?_
    refine wn_reg 2 (by kernel_rfl) ?_
    refine wc_run (T' := [(1, .pointer (some ⟨b1, 0, none⟩)), (20, .int .u8 k), (39, .bool (k == (2 : Int)))]) (L2 := (rng 2 0)) 2 [1, 20, 39] (by kernel_rfl) ?_
    refine wc_nil rfl ?_
    refine n_sq ?_
    refine wn_cond (.tmp 39) (k == (2 : Int)) (by kernel_rfl) rfl (fun hc10 => ?_) (fun hc10 => ?_)
    · have hc10 := eq_of_beq hc10
      refine wn_seq (by kernel_rfl) ?_
      refine wn_reg 9 (by kernel_rfl) ?_
      refine wc_run (T' := [(1, .pointer (some ⟨b1, 0, none⟩)), (41, .pointer (some ⟨b1, 1, none⟩))]) (L2 := (rng 1 8)) 1 [1, 41] (by kernel_rfl) ?_
      refine wc_ld (b := b1) (off := 1) (some 42) 22 (.int .u64 f) (by kernel_rfl) (Ld.ent1 H 0 rfl (by kernel_rfl) (by rfl)) ?_
      refine wc_run (T' := [(1, .pointer (some ⟨b1, 0, none⟩)), (44, .bool (decide (f < (32 : Int))))]) (L2 := (rng 4 5)) 2 [1, 44] (by kernel_rfl) ?_
      refine wc_if (decide (f < (32 : Int))) (rng 8 1) ([(48, .bool ((decide (f < (32 : Int))) && (decide (t < (32 : Int)))))]) (fun hg11 K => ?_) (fun hg11 K => ?_) ?_
      · rw [hg11] at K ⊢
        have hg11 := of_decide_eq_true hg11
        refine wc_run (T' := [(44, .bool true), (45, .pointer (some ⟨b1, 2, none⟩))]) (L2 := (rng 5 4)) 1 [44, 45] (by kernel_rfl) ?_
        refine wc_ld (b := b1) (off := 2) (some 46) 22 (.int .u64 t) (by kernel_rfl) (Ld.ent1 H 0 rfl (by kernel_rfl) (by rfl)) ?_
        refine wc_run (T' := [(48, .bool (decide (t < (32 : Int))))]) (L2 := (rng 8 1)) 2 [48] (by kernel_rfl) ?_
        exact K
      · rw [hg11] at K ⊢
        have hg11 := of_decide_eq_false hg11
        refine wc_run (T' := [(48, .bool false)]) (L2 := (rng 8 1)) 4 [48] (by kernel_rfl) ?_
        exact K
      refine wc_run (T' := [(2, .bool ((decide (f < (32 : Int))) && (decide (t < (32 : Int)))))]) (L2 := (rng 9 0)) 1 [2] (by kernel_rfl) ?_
      refine wc_nil rfl ?_
      refine n_sq ?_
      refine wn_ret (by kernel_rfl) ?_
      refine r_blk ?_
      refine r_sq ?_
      refine ret1 _ (Or.inr rfl) Try.results25 rfl ?_
      have he12 : mayM k f t a n x y = ((decide (f < (32 : Int))) && (decide (t < (32 : Int)))) := by
        unfold mayM; rw [Bool.eq_iff_iff]; simp_all; try grind
      exact ⟨by first | (rw [he12]; done) | (rw [he12]; rfl), H.nil⟩
    · have hc10 := ne_of_beq_false hc10
      refine wn_seq (by kernel_rfl) ?_
      refine wn_reg 2 (by kernel_rfl) ?_
      refine wc_run (T' := [(1, .pointer (some ⟨b1, 0, none⟩)), (49, .bool (k == (3 : Int)))]) (L2 := (rng 2 0)) 2 [1, 49] (by kernel_rfl) ?_
      refine wc_nil rfl ?_
      refine n_sq ?_
      refine wn_cond (.tmp 49) (k == (3 : Int)) (by kernel_rfl) rfl (fun hc13 => ?_) (fun hc13 => ?_)
      · have hc13 := eq_of_beq hc13
        refine wn_seq (by kernel_rfl) ?_
        refine wn_reg 9 (by kernel_rfl) ?_
        refine wc_run (T' := [(1, .pointer (some ⟨b1, 0, none⟩)), (51, .pointer (some ⟨b1, 1, none⟩))]) (L2 := (rng 1 8)) 1 [1, 51] (by kernel_rfl) ?_
        refine wc_ld (b := b1) (off := 1) (some 52) 22 (.int .u64 f) (by kernel_rfl) (Ld.ent1 H 0 rfl (by kernel_rfl) (by rfl)) ?_
        refine wc_run (T' := [(1, .pointer (some ⟨b1, 0, none⟩)), (54, .bool (decide (f < (32 : Int))))]) (L2 := (rng 4 5)) 2 [1, 54] (by kernel_rfl) ?_
        refine wc_if (decide (f < (32 : Int))) (rng 8 1) ([(58, .bool ((decide (f < (32 : Int))) && (decide (a > (0 : Int)))))]) (fun hg14 K => ?_) (fun hg14 K => ?_) ?_
        · rw [hg14] at K ⊢
          have hg14 := of_decide_eq_true hg14
          refine wc_run (T' := [(54, .bool true), (55, .pointer (some ⟨b1, 3, none⟩))]) (L2 := (rng 5 4)) 1 [54, 55] (by kernel_rfl) ?_
          refine wc_ld (b := b1) (off := 3) (some 56) 22 (.int .u64 a) (by kernel_rfl) (Ld.ent1 H 0 rfl (by kernel_rfl) (by rfl)) ?_
          refine wc_run (T' := [(58, .bool (decide (a > (0 : Int))))]) (L2 := (rng 8 1)) 2 [58] (by kernel_rfl) ?_
          exact K
        · rw [hg14] at K ⊢
          have hg14 := of_decide_eq_false hg14
          refine wc_run (T' := [(58, .bool false)]) (L2 := (rng 8 1)) 4 [58] (by kernel_rfl) ?_
          exact K
        refine wc_run (T' := [(2, .bool ((decide (f < (32 : Int))) && (decide (a > (0 : Int)))))]) (L2 := (rng 9 0)) 1 [2] (by kernel_rfl) ?_
        refine wc_nil rfl ?_
        refine n_sq ?_
        refine wn_ret (by kernel_rfl) ?_
        refine r_blk ?_
        refine r_sq ?_
        refine ret1 _ (Or.inr rfl) Try.results25 rfl ?_
        have he15 : mayM k f t a n x y = ((decide (f < (32 : Int))) && (decide (a > (0 : Int)))) := by
          unfold mayM; rw [Bool.eq_iff_iff]; simp_all; try grind
        exact ⟨by first | (rw [he15]; done) | (rw [he15]; rfl), H.nil⟩
      · have hc13 := ne_of_beq_false hc13
        refine wn_skip (by kernel_rfl) ?_
        refine n_blk ?_
        refine n_sq ?_
        refine wn_seq (by kernel_rfl) ?_
        refine wn_reg 1 (by kernel_rfl) ?_
        refine wc_run (T' := [(2, .bool false)]) (L2 := (rng 1 0)) 1 [2] (by kernel_rfl) ?_
        refine wc_nil rfl ?_
        refine n_sq ?_
        refine wn_ret (by kernel_rfl) ?_
        refine ret1 _ (Or.inr rfl) Try.results25 rfl ?_
        have he16 : mayM k f t a n x y = false := by
          unfold mayM; rw [Bool.eq_iff_iff]; simp_all; try grind
        exact ⟨by first | (rw [he16]; done) | (rw [he16]; rfl), H.nil⟩

noncomputable def cd_proctorref06_Eight : Code := (Try.f51.body).getD .skip
theorem proctorref06_Eight (w : World) (x : Int)  :
    Calls Try.prog 51 #[.int .u64 x] w (fun e w' => ∃ (A : Option Addr), ∃ (c : Nat), e = .returned (.slice A ((ei8 x).length) c) ∧ Hp no w w' [.sl A ((ei8 x).length) c (iv .u8 (ei8 x)) 5 1] ∧ (ei8 x).length = 8) := by
  refine enter (args := [_]) (c := cd_proctorref06_Eight) (N := 19) Try.func51 (by kernel_rfl) (by kernel_rfl) (by simp) ?_
  have H := Hp.start w
  refine wn_seq (by kernel_rfl) ?_
  refine wn_reg 1 (by kernel_rfl) ?_
  refine wc_run (T' := [(0, .int .u64 x)]) (L2 := (rng 1 0)) 1 [0] (by kernel_rfl) ?_
  refine wc_nil rfl ?_
  refine n_sq ?_
  refine wn_seq (by kernel_rfl) ?_
  refine wn_reg 1 (by kernel_rfl) ?_
  refine wc_run (T' := [(0, .int .u64 x), (3, .slice none 0 0)]) (L2 := (rng 1 0)) 1 [0, 3] (by kernel_rfl) ?_
  refine wc_nil rfl ?_
  refine n_sq ?_
  refine wn_seq (by kernel_rfl) ?_
  refine wn_seq (by kernel_rfl) ?_
  refine wn_reg 1 (by kernel_rfl) ?_
  refine wc_run (T' := [(0, .int .u64 x), (3, .slice none 0 0), (4, .int .i64 7)]) (L2 := (rng 1 0)) 1 [0, 3, 4] (by kernel_rfl) ?_
  refine wc_nil rfl ?_
  refine n_sq ?_
  refine wn_block 0 (by kernel_rfl) ?_
  have H := H.nils 5 1
  refine wn_loop (fun ((i, q, A, c) : Int × List Int × Option Addr × Nat) => [(0, .int .u64 x), (3, .slice A q.length c), (4, .int .i64 i)]) (fun ((i, q, A, c) : Int × List Int × Option Addr × Nat) w' => Hp no w w' [.sl A q.length c (iv .u8 q) 5 1] ∧ -1 ≤ i ∧ i ≤ 7 ∧ q.length = (7 - i).toNat ∧ q = itN (e8S x) (7 - i).toNat []) (fun ((i, q, A, c) : Int × List Int × Option Addr × Nat) => (i + 1).toNat) ((7 : Int), [], none, 0) [0, 3, 4] (by kernel_rfl) rfl ⟨H, by simp [itN]⟩ ?_
  rintro ⟨i, q, A, c⟩ w1 ⟨H, hi⟩
  try dsimp only at H hi
  refine wn_pick (T' := [(0, .int .u64 x), (3, .slice A q.length c), (4, .int .i64 i)]) [0, 3, 4] (by kernel_rfl) ?_
  refine wn_seq (by kernel_rfl) ?_
  refine wn_seq (by kernel_rfl) ?_
  refine wn_reg 2 (by kernel_rfl) ?_
  refine wc_run (T' := [(0, .int .u64 x), (3, .slice A q.length c), (4, .int .i64 i), (6, .bool (decide (i ≥ (0 : Int))))]) (L2 := (rng 2 0)) 2 [0, 3, 4, 6] (by kernel_rfl) ?_
  refine wc_nil rfl ?_
  refine n_sq ?_
  refine wn_cond (.tmp 6) (decide (i ≥ (0 : Int))) (by kernel_rfl) rfl (fun hc2 => ?_) (fun hc2 => ?_)
  · have hc2 := of_decide_eq_true hc2
    refine wn_skip (by kernel_rfl) ?_
    refine n_sq ?_
    refine wn_seq (by kernel_rfl) ?_
    refine wn_block 1 (by kernel_rfl) ?_
    refine wn_reg 10 (by kernel_rfl) ?_
    refine wc_run (T' := [(0, .int .u64 x), (4, .int .i64 i), (9, .slice A q.length c), (10, .int .u64 x), (12, .int .i64 (IntKind.i64.wrap (8 * i)))]) (L2 := (rng 4 6)) 4 [0, 4, 9, 10, 12] (by kernel_rfl) ?_
    rw [wi64 (x := 8 * i) (by first | omega | (simp only [List.length_append, List.length_cons, List.length_nil, List.length_set, List.length_replicate, List.length_drop, List.length_take, iv_length, Nat.zero_add] at * <;> omega)) (by first | omega | (simp only [List.length_append, List.length_cons, List.length_nil, List.length_set, List.length_replicate, List.length_drop, List.length_take, iv_length, Nat.zero_add] at * <;> omega))]
    refine wc_run (T' := [(0, .int .u64 x), (4, .int .i64 i), (9, .slice A q.length c), (10, .int .u64 x), (13, .int .u64 (IntKind.u64.wrap (8 * i)))]) (L2 := (rng 5 5)) 1 [0, 4, 9, 10, 13] (by kernel_rfl) ?_
    rw [wu64 (x := 8 * i) (by first | omega | (simp only [List.length_append, List.length_cons, List.length_nil, List.length_set, List.length_replicate, List.length_drop, List.length_take, iv_length, Nat.zero_add] at * <;> omega)) (by first | omega | (simp only [List.length_append, List.length_cons, List.length_nil, List.length_set, List.length_replicate, List.length_drop, List.length_take, iv_length, Nat.zero_add] at * <;> omega))]
    refine wc_shr (some 14) .u64 x (8 * i) (by kernel_rfl) (by kernel_rfl) (by omega) ?_
    refine wc_run (T' := [(0, .int .u64 x), (4, .int .i64 i), (9, .slice A q.length c), (15, .int .u8 (IntKind.u8.wrap (shrV .u64 x (8 * i))))]) (L2 := (rng 7 3)) 1 [0, 4, 9, 15] (by kernel_rfl) ?_
    refine wc_new H (some 16) (row ([.int .u8 (IntKind.u8.wrap (shrV .u64 x (8 * i)))]) 5) (fun r => .slice (some ⟨r, 0, none⟩) 1 1) (by kernel_rfl) (fun b3 w4 H => ?_)
    refine wc_appN H 1 (some 17) (A := A) (n := q.length) (c := c) (B := (some ⟨b3, 0, none⟩)) (mm := 1) (cc := 1) (t := 50) (e := 5) 1 1 (xs := (iv .u8 q)) (ys := (iv .u8 ([IntKind.u8.wrap (shrV .u64 x (8 * i))]))) (zs := (iv .u8 (q ++ [IntKind.u8.wrap (shrV .u64 x (8 * i))]))) ((q ++ [IntKind.u8.wrap (shrV .u64 x (8 * i))]).length) (by kernel_rfl) rfl (Rd.of_ent H (k := 0) (off := 0) (n := 1) rfl (by rfl)) (by simp [iv]; try first | omega | (simp only [List.length_append, List.length_cons, List.length_nil, List.length_set, List.length_replicate, List.length_drop, List.length_take, iv_length, Nat.zero_add] at * <;> omega)) (by first | exact iv_flat _ _ | simp [Value.oneCell']) (by first | omega | (simp only [List.length_append, List.length_cons, List.length_nil, List.length_set, List.length_replicate, List.length_drop, List.length_take, iv_length, Nat.zero_add] at * <;> omega)) (by simp [iv]) (by first | omega | (simp only [List.length_append, List.length_cons, List.length_nil, List.length_set, List.length_replicate, List.length_drop, List.length_take, iv_length, Nat.zero_add] at * <;> omega)) (fun A5 c6 w7 H => ?_)
    dsimp only [List.set] at H
    refine wc_run (T' := [(0, .int .u64 x), (3, .slice A5 ((q ++ [IntKind.u8.wrap (shrV .u64 x (8 * i))]).length) c6), (4, .int .i64 i)]) (L2 := (rng 10 0)) 1 [0, 3, 4] (by kernel_rfl) ?_
    refine wc_nil rfl ?_
    refine n_blk ?_
    refine n_sq ?_
    refine wn_reg 3 (by kernel_rfl) ?_
    refine wc_run (T' := [(0, .int .u64 x), (3, .slice A5 ((q ++ [IntKind.u8.wrap (shrV .u64 x (8 * i))]).length) c6), (8, .int .i64 (IntKind.i64.wrap (i - 1)))]) (L2 := (rng 2 1)) 2 [0, 3, 8] (by kernel_rfl) ?_
    rw [wi64 (x := i - 1) (by first | omega | (simp only [List.length_append, List.length_cons, List.length_nil, List.length_set, List.length_replicate, List.length_drop, List.length_take, iv_length, Nat.zero_add] at * <;> omega)) (by first | omega | (simp only [List.length_append, List.length_cons, List.length_nil, List.length_set, List.length_replicate, List.length_drop, List.length_take, iv_length, Nat.zero_add] at * <;> omega))]
    refine wc_run (T' := [(0, .int .u64 x), (3, .slice A5 ((q ++ [IntKind.u8.wrap (shrV .u64 x (8 * i))]).length) c6), (4, .int .i64 (i - 1))]) (L2 := (rng 3 0)) 1 [0, 3, 4] (by kernel_rfl) ?_
    refine wc_nil rfl ?_
    refine round_end (i - 1, (q ++ [IntKind.u8.wrap (shrV .u64 x (8 * i))]), A5, c6) [0, 3, 4] (by kernel_rfl) ⟨H.sel [1] (by decide) rfl, ?_⟩ ?_
    · obtain ⟨h1, h2, h3, h4⟩ := hi
      have e1 : (7 - (i - 1)).toNat = (7 - i).toNat + 1 := by omega
      have e3 : (7 - (((7 - i).toNat : Nat) : Int)) = i := by omega
      refine ⟨by omega, by omega, by simp [h3]; omega, ?_⟩
      rw [e1, itN, e8S, ← h4, e3]
    · first | omega | (dsimp only; omega)
  · have hc2 := of_decide_eq_false hc2
    refine wn_exit 0 (by kernel_rfl) ?_
    refine e_sq ?_
    refine e_then ?_
    refine e_blk ?_
    refine n_sq ?_
    refine wn_seq (by kernel_rfl) ?_
    refine wn_reg 2 (by kernel_rfl) ?_
    refine wc_run (T' := [(2, .slice A q.length c)]) (L2 := (rng 2 0)) 2 [2] (by kernel_rfl) ?_
    refine wc_nil rfl ?_
    refine n_sq ?_
    refine wn_ret (by kernel_rfl) ?_
    refine ret1 _ (Or.inr rfl) Try.results51 rfl ?_
    have he8 : (ei8 x) = q := by
      obtain ⟨h1, h2, h3, h4⟩ := hi
      have e : (7 - i).toNat = 8 := by omega
      rw [h4, e, ei8]
    exact ⟨A, c, by first | (rw [he8]; done) | (rw [he8]; rfl), (by rw [he8]; exact H), by exact ei8_length _⟩

noncomputable def cd_msg_Words : Code := (Try.f30.body).getD .skip
theorem msg_Words (w : World) (b : List Int) (A : Option Addr) (c : Nat) (hb : Rd w A (iv .u8 b)) (hr : ∀ j, 0 ≤ b.getD j 0 ∧ b.getD j 0 < 256) (hn : b.length ≤ 140737488351232) :
    Calls Try.prog 30 #[.slice A b.length c] w (fun e w' => e = .returned (.tuple #[.agg (iv .u64 (mwW b)).toArray, .int .i64 (mwE b)]) ∧ Hp no w w' [] ∧ (mwW b).length = 13) := by
  refine enter (args := [_]) (c := cd_msg_Words) (N := 35) Try.func30 (by kernel_rfl) (by kernel_rfl) (by simp) ?_
  have H := Hp.start w
  refine wn_seq (by kernel_rfl) ?_
  refine wn_reg 2 (by kernel_rfl) ?_
  refine wc_new H (some 2) (row (iv .u64 (List.replicate 13 0)) 61) (fun r => .pointer (some ⟨r, 0, none⟩)) (by kernel_rfl) (fun b1 w2 H => ?_)
  refine wc_run (T' := [(0, .slice A b.length c), (2, .pointer (some ⟨b1, 0, none⟩))]) (L2 := (rng 2 0)) 1 [0, 2] (by kernel_rfl) ?_
  refine wc_nil rfl ?_
  refine n_sq ?_
  refine wn_seq (by kernel_rfl) ?_
  refine wn_reg 1 (by kernel_rfl) ?_
  refine wc_new H (some 4) (row (iv .u64 (List.replicate 13 0)) 61) (fun r => .pointer (some ⟨r, 0, none⟩)) (by kernel_rfl) (fun b3 w4 H => ?_)
  refine wc_nil rfl ?_
  refine n_sq ?_
  refine wn_seq (by kernel_rfl) ?_
  refine wn_block 0 (by kernel_rfl) ?_
  refine wn_seq (by kernel_rfl) ?_
  refine wn_reg 4 (by kernel_rfl) ?_
  refine wc_run (T' := [(0, .slice A b.length c), (2, .pointer (some ⟨b1, 0, none⟩)), (4, .pointer (some ⟨b3, 0, none⟩)), (6, .bool (decide ((↑b.length : Int) < (104 : Int))))]) (L2 := (rng 4 0)) 4 [0, 2, 4, 6] (by kernel_rfl) ?_
  refine wc_nil rfl ?_
  refine n_sq ?_
  refine wn_cond (.tmp 6) (decide ((↑b.length : Int) < (104 : Int))) (by kernel_rfl) rfl (fun hc5 => ?_) (fun hc5 => ?_)
  · have hc5 := of_decide_eq_true hc5
    refine wn_seq (by kernel_rfl) ?_
    refine wn_reg 3 (by kernel_rfl) ?_
    refine wc_ld (b := b3) (off := 0) (some 10) 61 (.agg (iv .u64 (List.replicate 13 0)).toArray) (by kernel_rfl) (Ld.entW H 0 (n := 13) rfl (by kernel_rfl) (by exact (iv_length .u64 (List.replicate 13 0)).trans List.length_replicate)) ?_
    refine wc_st (b := b1) (off := 0) (Tb := 61) (vs := (iv .u64 (List.replicate 13 0))) (cs' := (iv .u64 (List.replicate 13 0))) H 1 61 (.agg (iv .u64 (List.replicate 13 0)).toArray) 13 (by kernel_rfl) rfl rfl (by exact (iv_length .u64 (List.replicate 13 0)).trans List.length_replicate) (by have h := (iv_length .u64 (List.replicate 13 0)).trans List.length_replicate; omega) (by exact iv_flat _ _) (by exact blit_all _ _ ((show (iv .u64 (List.replicate 13 0) : List Value).length = 13 from (iv_length .u64 (List.replicate 13 0)).trans List.length_replicate).trans (show (iv .u64 (List.replicate 13 0) : List Value).length = 13 from (iv_length .u64 (List.replicate 13 0)).trans List.length_replicate).symm)) (fun w6 H => ?_)
    dsimp only [List.set] at H
    refine wc_run (T' := [(2, .pointer (some ⟨b1, 0, none⟩)), (3, .int .i64 7)]) (L2 := (rng 3 0)) 1 [2, 3] (by kernel_rfl) ?_
    refine wc_nil rfl ?_
    refine n_sq ?_
    refine wn_ret (by kernel_rfl) ?_
    refine r_blk ?_
    refine r_sq ?_
    refine ret2 _ (Or.inr rfl) Try.results30 ⟨_, _, rfl, Ld.entW H 1 (n := 13) rfl (by kernel_rfl) (by exact (iv_length .u64 (List.replicate 13 0)).trans List.length_replicate)⟩ rfl ?_
    have he7 : mwW b = (List.replicate 13 0) := by
      unfold mwW; rw [if_neg (by omega)]
    have he8 : mwE b = (7 : Int) := by
      unfold mwE; split <;> omega
    exact ⟨by first | (rw [he7, he8]; done) | (rw [he7, he8]; rfl), H.nil, by exact mwW_length _⟩
  · have hc5 := of_decide_eq_false hc5
    refine wn_seq (by kernel_rfl) ?_
    refine wn_reg 4 (by kernel_rfl) ?_
    refine wc_run (T' := [(0, .slice A b.length c), (2, .pointer (some ⟨b1, 0, none⟩)), (4, .pointer (some ⟨b3, 0, none⟩)), (11, .bool (decide ((↑b.length : Int) > (104 : Int))))]) (L2 := (rng 4 0)) 4 [0, 2, 4, 11] (by kernel_rfl) ?_
    refine wc_nil rfl ?_
    refine n_sq ?_
    refine wn_cond (.tmp 11) (decide ((↑b.length : Int) > (104 : Int))) (by kernel_rfl) rfl (fun hc9 => ?_) (fun hc9 => ?_)
    · have hc9 := of_decide_eq_true hc9
      refine wn_seq (by kernel_rfl) ?_
      refine wn_reg 3 (by kernel_rfl) ?_
      refine wc_ld (b := b3) (off := 0) (some 15) 61 (.agg (iv .u64 (List.replicate 13 0)).toArray) (by kernel_rfl) (Ld.entW H 0 (n := 13) rfl (by kernel_rfl) (by exact (iv_length .u64 (List.replicate 13 0)).trans List.length_replicate)) ?_
      refine wc_st (b := b1) (off := 0) (Tb := 61) (vs := (iv .u64 (List.replicate 13 0))) (cs' := (iv .u64 (List.replicate 13 0))) H 1 61 (.agg (iv .u64 (List.replicate 13 0)).toArray) 13 (by kernel_rfl) rfl rfl (by exact (iv_length .u64 (List.replicate 13 0)).trans List.length_replicate) (by have h := (iv_length .u64 (List.replicate 13 0)).trans List.length_replicate; omega) (by exact iv_flat _ _) (by exact blit_all _ _ ((show (iv .u64 (List.replicate 13 0) : List Value).length = 13 from (iv_length .u64 (List.replicate 13 0)).trans List.length_replicate).trans (show (iv .u64 (List.replicate 13 0) : List Value).length = 13 from (iv_length .u64 (List.replicate 13 0)).trans List.length_replicate).symm)) (fun w10 H => ?_)
      dsimp only [List.set] at H
      refine wc_run (T' := [(2, .pointer (some ⟨b1, 0, none⟩)), (3, .int .i64 8)]) (L2 := (rng 3 0)) 1 [2, 3] (by kernel_rfl) ?_
      refine wc_nil rfl ?_
      refine n_sq ?_
      refine wn_ret (by kernel_rfl) ?_
      refine r_blk ?_
      refine r_sq ?_
      refine ret2 _ (Or.inr rfl) Try.results30 ⟨_, _, rfl, Ld.entW H 1 (n := 13) rfl (by kernel_rfl) (by exact (iv_length .u64 (List.replicate 13 0)).trans List.length_replicate)⟩ rfl ?_
      have he11 : mwW b = (List.replicate 13 0) := by
        unfold mwW; rw [if_neg (by omega)]
      have he12 : mwE b = (8 : Int) := by
        unfold mwE; split <;> first | omega | (split <;> omega)
      exact ⟨by first | (rw [he11, he12]; done) | (rw [he11, he12]; rfl), H.nil, by exact mwW_length _⟩
    · have hc9 := of_decide_eq_false hc9
      refine wn_skip (by kernel_rfl) ?_
      refine n_blk ?_
      refine n_sq ?_
      refine wn_seq (by kernel_rfl) ?_
      refine wn_seq (by kernel_rfl) ?_
      refine wn_reg 1 (by kernel_rfl) ?_
      refine wc_run (T' := [(0, .slice A b.length c), (2, .pointer (some ⟨b1, 0, none⟩)), (4, .pointer (some ⟨b3, 0, none⟩)), (16, .int .i64 0)]) (L2 := (rng 1 0)) 1 [0, 2, 4, 16] (by kernel_rfl) ?_
      refine wc_nil rfl ?_
      refine n_sq ?_
      refine wn_block 1 (by kernel_rfl) ?_
      refine wn_loop (fun ((i, q) : Int × List Int) => [(0, .slice A b.length c), (2, .pointer (some ⟨b1, 0, none⟩)), (4, .pointer (some ⟨b3, 0, none⟩)), (16, .int .i64 i)]) (fun ((i, q) : Int × List Int) w' => Hp no w w' [.bk b3 (row (iv .u64 q) 61), .bk b1 (row (iv .u64 (List.replicate 13 0)) 61)] ∧ 0 ≤ i ∧ i ≤ 104 ∧ q.length = 13 ∧ q = itN (wdS b) i.toNat (List.replicate 13 0)) (fun ((i, q) : Int × List Int) => (104 - i).toNat) ((0 : Int), (List.replicate 13 0)) [0, 2, 4, 16] (by kernel_rfl) rfl ⟨H, by simp [itN]⟩ ?_
      rintro ⟨i, q⟩ w13 ⟨H, hi⟩
      try dsimp only at H hi
      refine wn_pick (T' := [(0, .slice A b.length c), (2, .pointer (some ⟨b1, 0, none⟩)), (4, .pointer (some ⟨b3, 0, none⟩)), (16, .int .i64 i)]) [0, 2, 4, 16] (by kernel_rfl) ?_
      have hx := hr i.toNat
      refine wn_seq (by kernel_rfl) ?_
      refine wn_reg 1 (by kernel_rfl) ?_
      refine wc_run (T' := [(0, .slice A b.length c), (2, .pointer (some ⟨b1, 0, none⟩)), (4, .pointer (some ⟨b3, 0, none⟩)), (16, .int .i64 i), (17, .bool (decide (i < (104 : Int))))]) (L2 := (rng 1 0)) 1 [0, 2, 4, 16, 17] (by kernel_rfl) ?_
      refine wc_nil rfl ?_
      refine n_sq ?_
      refine wn_seq (by kernel_rfl) ?_
      refine wn_cond (.tmp 17) (decide (i < (104 : Int))) (by kernel_rfl) rfl (fun hc14 => ?_) (fun hc14 => ?_)
      · have hc14 := of_decide_eq_true hc14
        refine wn_skip (by kernel_rfl) ?_
        refine n_sq ?_
        refine wn_seq (by kernel_rfl) ?_
        refine wn_block 2 (by kernel_rfl) ?_
        refine wn_seq (by kernel_rfl) ?_
        refine wn_reg 2 (by kernel_rfl) ?_
        refine wc_run (T' := [(0, .slice A b.length c), (2, .pointer (some ⟨b1, 0, none⟩)), (4, .pointer (some ⟨b3, 0, none⟩)), (5, .int .i64 i), (16, .int .i64 i)]) (L2 := (rng 2 0)) 2 [0, 2, 4, 5, 16] (by kernel_rfl) ?_
        refine wc_nil rfl ?_
        refine n_sq ?_
        refine wn_regD [] (ol [0, 1, 2, 3, 4, 5, 6, 7, 8, 9, 10, 11, 12, 13, 14]) (by kernel_rfl) H (fun w15 H => ?_)
        refine wc_run (T' := [(0, .slice A b.length c), (2, .pointer (some ⟨b1, 0, none⟩)), (4, .pointer (some ⟨b3, 0, none⟩)), (5, .int .i64 i), (16, .int .i64 i), (20, .int .i64 (IntKind.i64.wrap (i.tdiv 8)))]) (L2 := (ol [2, 3, 4, 5, 6, 7, 8, 9, 10, 11, 12, 13, 14])) 2 [0, 2, 4, 5, 16, 20] (by kernel_rfl) ?_
        rw [Int.tdiv_eq_ediv_of_nonneg (a := i) (b := 8) (by first | omega | (simp only [List.length_append, List.length_cons, List.length_nil, List.length_set, List.length_replicate, List.length_drop, List.length_take, iv_length, Nat.zero_add] at * <;> omega))]
        rw [wi64 (x := i / 8) (by first | omega | (simp only [List.length_append, List.length_cons, List.length_nil, List.length_set, List.length_replicate, List.length_drop, List.length_take, iv_length, Nat.zero_add] at * <;> omega)) (by first | omega | (simp only [List.length_append, List.length_cons, List.length_nil, List.length_set, List.length_replicate, List.length_drop, List.length_take, iv_length, Nat.zero_add] at * <;> omega))]
        refine wc_run (T' := [(0, .slice A b.length c), (2, .pointer (some ⟨b1, 0, none⟩)), (4, .pointer (some ⟨b3, 0, none⟩)), (5, .int .i64 i), (16, .int .i64 i), (20, .int .i64 (i / 8)), (22, .int .i64 (IntKind.i64.wrap (i.tdiv 8)))]) (L2 := (ol [4, 5, 6, 7, 8, 9, 10, 11, 12, 13, 14])) 2 [0, 2, 4, 5, 16, 20, 22] (by kernel_rfl) ?_
        rw [Int.tdiv_eq_ediv_of_nonneg (a := i) (b := 8) (by first | omega | (simp only [List.length_append, List.length_cons, List.length_nil, List.length_set, List.length_replicate, List.length_drop, List.length_take, iv_length, Nat.zero_add] at * <;> omega))]
        rw [wi64 (x := i / 8) (by first | omega | (simp only [List.length_append, List.length_cons, List.length_nil, List.length_set, List.length_replicate, List.length_drop, List.length_take, iv_length, Nat.zero_add] at * <;> omega)) (by first | omega | (simp only [List.length_append, List.length_cons, List.length_nil, List.length_set, List.length_replicate, List.length_drop, List.length_take, iv_length, Nat.zero_add] at * <;> omega))]
        refine wc_ix (b := b3) (off := 0) (o' := (i / 8).toNat) (some 23) (some ⟨b3, 0, none⟩) 13 1 (i / 8) (by kernel_rfl) rfl (by omega) (by omega) (by omega) ?_
        refine wc_ld (b := b3) (off := (i / 8).toNat) (some 24) 22 (.int .u64 (q.getD ((i / 8).toNat) 0)) (by kernel_rfl) (Ld.ent1 H 0 rfl (by kernel_rfl) (iv_get (by first | (simp only [iv_length, List.length_set, List.length_replicate, *]; done) | (simp [iv_length, *]; done) | (simp [Value.cells, iv_length, *]; done) | omega | (simp [Value.cells, iv_length] <;> omega)))) ?_
        refine wc_run (T' := [(0, .slice A b.length c), (2, .pointer (some ⟨b1, 0, none⟩)), (4, .pointer (some ⟨b3, 0, none⟩)), (16, .int .i64 i), (20, .int .i64 (i / 8)), (25, .int .u64 (shlV .u64 (q.getD ((i / 8).toNat) 0) 8)), (26, .slice A b.length c), (27, .int .i64 i)]) (L2 := (ol [9, 10, 11, 12, 13, 14])) 3 [0, 2, 4, 16, 20, 25, 26, 27] (by kernel_rfl) ?_
        refine wc_ixA (some 28) A b.length 1 i i.toNat (by kernel_rfl) (Rd.isSome (cs := (iv .u8 b)) (hb.keep H.keep) (by first | omega | (simp only [List.length_append, List.length_cons, List.length_nil, List.length_set, List.length_replicate, List.length_drop, List.length_take, iv_length, Nat.zero_add] at * <;> omega))) (by first | omega | (simp only [List.length_append, List.length_cons, List.length_nil, List.length_set, List.length_replicate, List.length_drop, List.length_take, iv_length, Nat.zero_add] at * <;> omega)) (by first | omega | (simp only [List.length_append, List.length_cons, List.length_nil, List.length_set, List.length_replicate, List.length_drop, List.length_take, iv_length, Nat.zero_add] at * <;> omega)) (by first | rfl | first | omega | (simp only [List.length_append, List.length_cons, List.length_nil, List.length_set, List.length_replicate, List.length_drop, List.length_take, iv_length, Nat.zero_add] at * <;> omega)) ?_
        refine wc_ldA (A := A) (cs := (iv .u8 b)) (hb.keep H.keep) (some 29) 5 i.toNat (.int .u8 (b.getD i.toNat 0)) (by kernel_rfl) (Or.inl ⟨by kernel_rfl, iv_get (by first | omega | (simp only [List.length_append, List.length_cons, List.length_nil, List.length_set, List.length_replicate, List.length_drop, List.length_take, iv_length, Nat.zero_add] at * <;> omega))⟩) ?_
        refine wc_run (T' := [(0, .slice A b.length c), (2, .pointer (some ⟨b1, 0, none⟩)), (4, .pointer (some ⟨b3, 0, none⟩)), (16, .int .i64 i), (20, .int .i64 (i / 8)), (25, .int .u64 (shlV .u64 (q.getD ((i / 8).toNat) 0) 8)), (30, .int .u64 (IntKind.u64.wrap (b.getD i.toNat 0)))]) (L2 := (ol [12, 13, 14])) 1 [0, 2, 4, 16, 20, 25, 30] (by kernel_rfl) ?_
        rw [wu64 (x := b.getD i.toNat 0) (by first | omega | (simp only [List.length_append, List.length_cons, List.length_nil, List.length_set, List.length_replicate, List.length_drop, List.length_take, iv_length, Nat.zero_add] at * <;> omega)) (by first | omega | (simp only [List.length_append, List.length_cons, List.length_nil, List.length_set, List.length_replicate, List.length_drop, List.length_take, iv_length, Nat.zero_add] at * <;> omega))]
        refine wc_run (T' := [(0, .slice A b.length c), (2, .pointer (some ⟨b1, 0, none⟩)), (4, .pointer (some ⟨b3, 0, none⟩)), (16, .int .i64 i), (20, .int .i64 (i / 8)), (31, .int .u64 (bor .u64 (shlV .u64 (q.getD ((i / 8).toNat) 0) 8) (b.getD i.toNat 0)))]) (L2 := (ol [13, 14])) 1 [0, 2, 4, 16, 20, 31] (by kernel_rfl) ?_
        refine wc_ix (b := b3) (off := 0) (o' := (i / 8).toNat) (some 32) (some ⟨b3, 0, none⟩) 13 1 (i / 8) (by kernel_rfl) rfl (by omega) (by omega) (by omega) ?_
        refine wc_st (b := b3) (off := (i / 8).toNat) (Tb := 61) (vs := ([.int .u64 (bor .u64 (shlV .u64 (q.getD ((i / 8).toNat) 0) 8) (b.getD i.toNat 0))])) (cs' := (iv .u64 (q.set ((i / 8).toNat) (bor .u64 (shlV .u64 (q.getD ((i / 8).toNat) 0) 8) (b.getD i.toNat 0))))) H 0 22 (.int .u64 (bor .u64 (shlV .u64 (q.getD ((i / 8).toNat) 0) 8) (b.getD i.toNat 0))) 1 (by kernel_rfl) rfl rfl (by rfl) (by first | (simp only [iv_length, List.length_set, List.length_replicate, *]; done) | (simp [iv_length, *]; done) | (simp [Value.cells, iv_length, *]; done) | omega | (simp [Value.cells, iv_length] <;> omega)) (by simp [Value.oneCell']) (by exact iv_set _ _ _ _ (by first | (simp only [iv_length, List.length_set, List.length_replicate, *]; done) | (simp [iv_length, *]; done) | (simp [Value.cells, iv_length, *]; done) | omega | (simp [Value.cells, iv_length] <;> omega))) (fun w16 H => ?_)
        dsimp only [List.set] at H
        refine wc_nil rfl ?_
        refine n_np ?_
        refine n_blk ?_
        refine n_sq ?_
        refine wn_reg 2 (by kernel_rfl) ?_
        refine wc_run (T' := [(0, .slice A b.length c), (2, .pointer (some ⟨b1, 0, none⟩)), (4, .pointer (some ⟨b3, 0, none⟩)), (33, .int .i64 (IntKind.i64.wrap (i + 1)))]) (L2 := (rng 1 1)) 1 [0, 2, 4, 33] (by kernel_rfl) ?_
        rw [wi64 (x := i + 1) (by first | omega | (simp only [List.length_append, List.length_cons, List.length_nil, List.length_set, List.length_replicate, List.length_drop, List.length_take, iv_length, Nat.zero_add] at * <;> omega)) (by first | omega | (simp only [List.length_append, List.length_cons, List.length_nil, List.length_set, List.length_replicate, List.length_drop, List.length_take, iv_length, Nat.zero_add] at * <;> omega))]
        refine wc_run (T' := [(0, .slice A b.length c), (2, .pointer (some ⟨b1, 0, none⟩)), (4, .pointer (some ⟨b3, 0, none⟩)), (16, .int .i64 (i + 1))]) (L2 := (rng 2 0)) 1 [0, 2, 4, 16] (by kernel_rfl) ?_
        refine wc_nil rfl ?_
        refine round_end (i + 1, q.set ((i / 8).toNat) (bor .u64 (shlV .u64 (q.getD ((i / 8).toNat) 0) 8) (b.getD i.toNat 0))) [0, 2, 4, 16] (by kernel_rfl) ⟨H, ?_⟩ ?_
        · obtain ⟨h1, h2, h3, h4⟩ := hi
          have e1 : (i + 1).toNat = i.toNat + 1 := by omega
          have e2 : (i / 8).toNat = i.toNat / 8 := by omega
          refine ⟨by omega, by omega, by simp [h3], ?_⟩
          rw [e1, e2, itN, wdS, ← h4]
        · first | omega | (dsimp only; omega)
      · have hc14 := of_decide_eq_false hc14
        refine wn_exit 1 (by kernel_rfl) ?_
        refine e_sq ?_
        refine e_then ?_
        refine e_blk ?_
        refine n_sq ?_
        refine wn_seq (by kernel_rfl) ?_
        refine wn_reg 3 (by kernel_rfl) ?_
        refine wc_ld (b := b3) (off := 0) (some 34) 61 (.agg (iv .u64 q).toArray) (by kernel_rfl) (Ld.entW H 0 (n := 13) rfl (by kernel_rfl) (by first | (simp only [iv_length, List.length_set, List.length_replicate, *]; done) | (simp [iv_length, *]; done) | (simp [Value.cells, iv_length, *]; done) | omega | (simp [Value.cells, iv_length] <;> omega))) ?_
        refine wc_st (b := b1) (off := 0) (Tb := 61) (vs := (iv .u64 q)) (cs' := (iv .u64 q)) H 1 61 (.agg (iv .u64 q).toArray) 13 (by kernel_rfl) rfl rfl (by first | (simp only [iv_length, List.length_set, List.length_replicate, *]; done) | (simp [iv_length, *]; done) | (simp [Value.cells, iv_length, *]; done) | omega | (simp [Value.cells, iv_length] <;> omega)) (by have h := (iv_length .u64 (List.replicate 13 0)).trans List.length_replicate; omega) (by exact iv_flat _ _) (by first | rfl | exact blit_all _ _ (by first | (simp only [iv_length, List.length_set, List.length_replicate, *]; done) | (simp [iv_length, *]; done) | (simp [Value.cells, iv_length, *]; done) | omega | (simp [Value.cells, iv_length] <;> omega)) | (simp [blit, List.drop_append, List.take_append, iv_length, *]; done)) (fun w17 H => ?_)
        dsimp only [List.set] at H
        refine wc_run (T' := [(2, .pointer (some ⟨b1, 0, none⟩)), (3, .int .i64 0)]) (L2 := (rng 3 0)) 1 [2, 3] (by kernel_rfl) ?_
        refine wc_nil rfl ?_
        refine n_sq ?_
        refine wn_ret (by kernel_rfl) ?_
        refine ret2 _ (Or.inr rfl) Try.results30 ⟨_, _, rfl, Ld.entW H 1 (n := 13) rfl (by kernel_rfl) (by first | (simp only [iv_length, List.length_set, List.length_replicate, *]; done) | (simp [iv_length, *]; done) | (simp [Value.cells, iv_length, *]; done) | omega | (simp [Value.cells, iv_length] <;> omega))⟩ rfl ?_
        have he18 : mwW b = q := by
          unfold mwW; rw [if_pos (by omega)]
          obtain ⟨h1, h2, h3, h4⟩ := hi
          have e : i.toNat = 104 := by omega
          rw [h4, e, wdF]
        have he19 : mwE b = (0 : Int) := by
          unfold mwE; split <;> first | omega | (split <;> omega)
        exact ⟨by first | (rw [he18, he19]; done) | (rw [he18, he19]; rfl), H.nil, by exact mwW_length _⟩

noncomputable def cd_proctorref07_Words : Code := (Try.f31.body).getD .skip
theorem proctorref07_Words (w : World) (b : List Int) (A : Option Addr) (c : Nat) (hb : Rd w A (iv .u8 b)) (hr : ∀ j, 0 ≤ b.getD j 0 ∧ b.getD j 0 < 256) (hn : b.length ≤ 140737488351232) :
    Calls Try.prog 31 #[.slice A b.length c] w (fun e w' => e = .returned (.tuple #[.agg (iv .u64 (mwW b)).toArray, .int .i64 (mwE b)]) ∧ Hp no w w' [] ∧ (mwW b).length = 13) := by
  refine enter (args := [_]) (c := cd_proctorref07_Words) (N := 33) Try.func31 (by kernel_rfl) (by kernel_rfl) (by simp) ?_
  have H := Hp.start w
  refine wn_seq (by kernel_rfl) ?_
  refine wn_reg 2 (by kernel_rfl) ?_
  refine wc_new H (some 2) (row (iv .u64 (List.replicate 13 0)) 61) (fun r => .pointer (some ⟨r, 0, none⟩)) (by kernel_rfl) (fun b1 w2 H => ?_)
  refine wc_run (T' := [(0, .slice A b.length c), (2, .pointer (some ⟨b1, 0, none⟩))]) (L2 := (rng 2 0)) 1 [0, 2] (by kernel_rfl) ?_
  refine wc_nil rfl ?_
  refine n_sq ?_
  refine wn_seq (by kernel_rfl) ?_
  refine wn_reg 1 (by kernel_rfl) ?_
  refine wc_new H (some 4) (row (iv .u64 (List.replicate 13 0)) 61) (fun r => .pointer (some ⟨r, 0, none⟩)) (by kernel_rfl) (fun b3 w4 H => ?_)
  refine wc_nil rfl ?_
  refine n_sq ?_
  refine wn_seq (by kernel_rfl) ?_
  refine wn_seq (by kernel_rfl) ?_
  refine wn_reg 3 (by kernel_rfl) ?_
  refine wc_run (T' := [(0, .slice A b.length c), (2, .pointer (some ⟨b1, 0, none⟩)), (4, .pointer (some ⟨b3, 0, none⟩)), (8, .bool (decide ((↑b.length : Int) < (104 : Int))))]) (L2 := (rng 3 0)) 3 [0, 2, 4, 8] (by kernel_rfl) ?_
  refine wc_nil rfl ?_
  refine n_sq ?_
  refine wn_cond (.tmp 8) (decide ((↑b.length : Int) < (104 : Int))) (by kernel_rfl) rfl (fun hc5 => ?_) (fun hc5 => ?_)
  · have hc5 := of_decide_eq_true hc5
    refine wn_seq (by kernel_rfl) ?_
    refine wn_reg 3 (by kernel_rfl) ?_
    refine wc_ld (b := b3) (off := 0) (some 9) 61 (.agg (iv .u64 (List.replicate 13 0)).toArray) (by kernel_rfl) (Ld.entW H 0 (n := 13) rfl (by kernel_rfl) (by exact (iv_length .u64 (List.replicate 13 0)).trans List.length_replicate)) ?_
    refine wc_st (b := b1) (off := 0) (Tb := 61) (vs := (iv .u64 (List.replicate 13 0))) (cs' := (iv .u64 (List.replicate 13 0))) H 1 61 (.agg (iv .u64 (List.replicate 13 0)).toArray) 13 (by kernel_rfl) rfl rfl (by exact (iv_length .u64 (List.replicate 13 0)).trans List.length_replicate) (by have h := (iv_length .u64 (List.replicate 13 0)).trans List.length_replicate; omega) (by exact iv_flat _ _) (by exact blit_all _ _ ((show (iv .u64 (List.replicate 13 0) : List Value).length = 13 from (iv_length .u64 (List.replicate 13 0)).trans List.length_replicate).trans (show (iv .u64 (List.replicate 13 0) : List Value).length = 13 from (iv_length .u64 (List.replicate 13 0)).trans List.length_replicate).symm)) (fun w6 H => ?_)
    dsimp only [List.set] at H
    refine wc_run (T' := [(2, .pointer (some ⟨b1, 0, none⟩)), (3, .int .i64 7)]) (L2 := (rng 3 0)) 1 [2, 3] (by kernel_rfl) ?_
    refine wc_nil rfl ?_
    refine n_sq ?_
    refine wn_ret (by kernel_rfl) ?_
    refine r_sq ?_
    refine ret2 _ (Or.inr rfl) Try.results31 ⟨_, _, rfl, Ld.entW H 1 (n := 13) rfl (by kernel_rfl) (by exact (iv_length .u64 (List.replicate 13 0)).trans List.length_replicate)⟩ rfl ?_
    have he7 : mwW b = (List.replicate 13 0) := by
      unfold mwW; rw [if_neg (by omega)]
    have he8 : mwE b = (7 : Int) := by
      unfold mwE; split <;> omega
    exact ⟨by first | (rw [he7, he8]; done) | (rw [he7, he8]; rfl), H.nil, by exact mwW_length _⟩
  · have hc5 := of_decide_eq_false hc5
    refine wn_skip (by kernel_rfl) ?_
    refine n_sq ?_
    refine wn_seq (by kernel_rfl) ?_
    refine wn_seq (by kernel_rfl) ?_
    refine wn_reg 3 (by kernel_rfl) ?_
    refine wc_run (T' := [(0, .slice A b.length c), (2, .pointer (some ⟨b1, 0, none⟩)), (4, .pointer (some ⟨b3, 0, none⟩)), (12, .bool (decide ((↑b.length : Int) > (104 : Int))))]) (L2 := (rng 3 0)) 3 [0, 2, 4, 12] (by kernel_rfl) ?_
    refine wc_nil rfl ?_
    refine n_sq ?_
    refine wn_cond (.tmp 12) (decide ((↑b.length : Int) > (104 : Int))) (by kernel_rfl) rfl (fun hc9 => ?_) (fun hc9 => ?_)
    · have hc9 := of_decide_eq_true hc9
      refine wn_seq (by kernel_rfl) ?_
      refine wn_reg 3 (by kernel_rfl) ?_
      refine wc_ld (b := b3) (off := 0) (some 13) 61 (.agg (iv .u64 (List.replicate 13 0)).toArray) (by kernel_rfl) (Ld.entW H 0 (n := 13) rfl (by kernel_rfl) (by exact (iv_length .u64 (List.replicate 13 0)).trans List.length_replicate)) ?_
      refine wc_st (b := b1) (off := 0) (Tb := 61) (vs := (iv .u64 (List.replicate 13 0))) (cs' := (iv .u64 (List.replicate 13 0))) H 1 61 (.agg (iv .u64 (List.replicate 13 0)).toArray) 13 (by kernel_rfl) rfl rfl (by exact (iv_length .u64 (List.replicate 13 0)).trans List.length_replicate) (by have h := (iv_length .u64 (List.replicate 13 0)).trans List.length_replicate; omega) (by exact iv_flat _ _) (by exact blit_all _ _ ((show (iv .u64 (List.replicate 13 0) : List Value).length = 13 from (iv_length .u64 (List.replicate 13 0)).trans List.length_replicate).trans (show (iv .u64 (List.replicate 13 0) : List Value).length = 13 from (iv_length .u64 (List.replicate 13 0)).trans List.length_replicate).symm)) (fun w10 H => ?_)
      dsimp only [List.set] at H
      refine wc_run (T' := [(2, .pointer (some ⟨b1, 0, none⟩)), (3, .int .i64 8)]) (L2 := (rng 3 0)) 1 [2, 3] (by kernel_rfl) ?_
      refine wc_nil rfl ?_
      refine n_sq ?_
      refine wn_ret (by kernel_rfl) ?_
      refine r_sq ?_
      refine ret2 _ (Or.inr rfl) Try.results31 ⟨_, _, rfl, Ld.entW H 1 (n := 13) rfl (by kernel_rfl) (by exact (iv_length .u64 (List.replicate 13 0)).trans List.length_replicate)⟩ rfl ?_
      have he11 : mwW b = (List.replicate 13 0) := by
        unfold mwW; rw [if_neg (by omega)]
      have he12 : mwE b = (8 : Int) := by
        unfold mwE; split <;> first | omega | (split <;> omega)
      exact ⟨by first | (rw [he11, he12]; done) | (rw [he11, he12]; rfl), H.nil, by exact mwW_length _⟩
    · have hc9 := of_decide_eq_false hc9
      refine wn_skip (by kernel_rfl) ?_
      refine n_sq ?_
      refine wn_seq (by kernel_rfl) ?_
      refine wn_seq (by kernel_rfl) ?_
      refine wn_reg 1 (by kernel_rfl) ?_
      refine wc_run (T' := [(0, .slice A b.length c), (2, .pointer (some ⟨b1, 0, none⟩)), (4, .pointer (some ⟨b3, 0, none⟩)), (5, .int .i64 0)]) (L2 := (rng 1 0)) 1 [0, 2, 4, 5] (by kernel_rfl) ?_
      refine wc_nil rfl ?_
      refine n_sq ?_
      refine wn_block 0 (by kernel_rfl) ?_
      refine wn_loop (fun ((i, q) : Int × List Int) => [(0, .slice A b.length c), (2, .pointer (some ⟨b1, 0, none⟩)), (4, .pointer (some ⟨b3, 0, none⟩)), (5, .int .i64 i)]) (fun ((i, q) : Int × List Int) w' => Hp no w w' [.bk b3 (row (iv .u64 q) 61), .bk b1 (row (iv .u64 (List.replicate 13 0)) 61)] ∧ 0 ≤ i ∧ i ≤ 104 ∧ q.length = 13 ∧ q = itN (wdS b) i.toNat (List.replicate 13 0)) (fun ((i, q) : Int × List Int) => (104 - i).toNat) ((0 : Int), (List.replicate 13 0)) [0, 2, 4, 5] (by kernel_rfl) rfl ⟨H, by simp [itN]⟩ ?_
      rintro ⟨i, q⟩ w13 ⟨H, hi⟩
      try dsimp only at H hi
      refine wn_pick (T' := [(0, .slice A b.length c), (2, .pointer (some ⟨b1, 0, none⟩)), (4, .pointer (some ⟨b3, 0, none⟩)), (5, .int .i64 i)]) [0, 2, 4, 5] (by kernel_rfl) ?_
      have hx := hr i.toNat
      refine wn_seq (by kernel_rfl) ?_
      refine wn_seq (by kernel_rfl) ?_
      refine wn_reg 2 (by kernel_rfl) ?_
      refine wc_run (T' := [(0, .slice A b.length c), (2, .pointer (some ⟨b1, 0, none⟩)), (4, .pointer (some ⟨b3, 0, none⟩)), (5, .int .i64 i), (15, .bool (decide (i < (104 : Int))))]) (L2 := (rng 2 0)) 2 [0, 2, 4, 5, 15] (by kernel_rfl) ?_
      refine wc_nil rfl ?_
      refine n_sq ?_
      refine wn_cond (.tmp 15) (decide (i < (104 : Int))) (by kernel_rfl) rfl (fun hc14 => ?_) (fun hc14 => ?_)
      · have hc14 := of_decide_eq_true hc14
        refine wn_skip (by kernel_rfl) ?_
        refine n_sq ?_
        refine wn_seq (by kernel_rfl) ?_
        refine wn_block 1 (by kernel_rfl) ?_
        refine wn_regD [] (ol [0, 1, 2, 3, 4, 5, 6, 7, 8, 9, 10, 11, 12, 13, 14]) (by kernel_rfl) H (fun w15 H => ?_)
        refine wc_run (T' := [(0, .slice A b.length c), (2, .pointer (some ⟨b1, 0, none⟩)), (4, .pointer (some ⟨b3, 0, none⟩)), (5, .int .i64 i), (19, .int .i64 (IntKind.i64.wrap (i.tdiv 8)))]) (L2 := (ol [2, 3, 4, 5, 6, 7, 8, 9, 10, 11, 12, 13, 14])) 2 [0, 2, 4, 5, 19] (by kernel_rfl) ?_
        rw [Int.tdiv_eq_ediv_of_nonneg (a := i) (b := 8) (by first | omega | (simp only [List.length_append, List.length_cons, List.length_nil, List.length_set, List.length_replicate, List.length_drop, List.length_take, iv_length, Nat.zero_add] at * <;> omega))]
        rw [wi64 (x := i / 8) (by first | omega | (simp only [List.length_append, List.length_cons, List.length_nil, List.length_set, List.length_replicate, List.length_drop, List.length_take, iv_length, Nat.zero_add] at * <;> omega)) (by first | omega | (simp only [List.length_append, List.length_cons, List.length_nil, List.length_set, List.length_replicate, List.length_drop, List.length_take, iv_length, Nat.zero_add] at * <;> omega))]
        refine wc_run (T' := [(0, .slice A b.length c), (2, .pointer (some ⟨b1, 0, none⟩)), (4, .pointer (some ⟨b3, 0, none⟩)), (5, .int .i64 i), (19, .int .i64 (i / 8)), (21, .int .i64 (IntKind.i64.wrap (i.tdiv 8)))]) (L2 := (ol [4, 5, 6, 7, 8, 9, 10, 11, 12, 13, 14])) 2 [0, 2, 4, 5, 19, 21] (by kernel_rfl) ?_
        rw [Int.tdiv_eq_ediv_of_nonneg (a := i) (b := 8) (by first | omega | (simp only [List.length_append, List.length_cons, List.length_nil, List.length_set, List.length_replicate, List.length_drop, List.length_take, iv_length, Nat.zero_add] at * <;> omega))]
        rw [wi64 (x := i / 8) (by first | omega | (simp only [List.length_append, List.length_cons, List.length_nil, List.length_set, List.length_replicate, List.length_drop, List.length_take, iv_length, Nat.zero_add] at * <;> omega)) (by first | omega | (simp only [List.length_append, List.length_cons, List.length_nil, List.length_set, List.length_replicate, List.length_drop, List.length_take, iv_length, Nat.zero_add] at * <;> omega))]
        refine wc_ix (b := b3) (off := 0) (o' := (i / 8).toNat) (some 22) (some ⟨b3, 0, none⟩) 13 1 (i / 8) (by kernel_rfl) rfl (by omega) (by omega) (by omega) ?_
        refine wc_ld (b := b3) (off := (i / 8).toNat) (some 23) 22 (.int .u64 (q.getD ((i / 8).toNat) 0)) (by kernel_rfl) (Ld.ent1 H 0 rfl (by kernel_rfl) (iv_get (by first | (simp only [iv_length, List.length_set, List.length_replicate, *]; done) | (simp [iv_length, *]; done) | (simp [Value.cells, iv_length, *]; done) | omega | (simp [Value.cells, iv_length] <;> omega)))) ?_
        refine wc_run (T' := [(0, .slice A b.length c), (2, .pointer (some ⟨b1, 0, none⟩)), (4, .pointer (some ⟨b3, 0, none⟩)), (5, .int .i64 i), (19, .int .i64 (i / 8)), (24, .int .u64 (shlV .u64 (q.getD ((i / 8).toNat) 0) 8)), (25, .slice A b.length c), (26, .int .i64 i)]) (L2 := (ol [9, 10, 11, 12, 13, 14])) 3 [0, 2, 4, 5, 19, 24, 25, 26] (by kernel_rfl) ?_
        refine wc_ixA (some 27) A b.length 1 i i.toNat (by kernel_rfl) (Rd.isSome (cs := (iv .u8 b)) (hb.keep H.keep) (by first | omega | (simp only [List.length_append, List.length_cons, List.length_nil, List.length_set, List.length_replicate, List.length_drop, List.length_take, iv_length, Nat.zero_add] at * <;> omega))) (by first | omega | (simp only [List.length_append, List.length_cons, List.length_nil, List.length_set, List.length_replicate, List.length_drop, List.length_take, iv_length, Nat.zero_add] at * <;> omega)) (by first | omega | (simp only [List.length_append, List.length_cons, List.length_nil, List.length_set, List.length_replicate, List.length_drop, List.length_take, iv_length, Nat.zero_add] at * <;> omega)) (by first | rfl | first | omega | (simp only [List.length_append, List.length_cons, List.length_nil, List.length_set, List.length_replicate, List.length_drop, List.length_take, iv_length, Nat.zero_add] at * <;> omega)) ?_
        refine wc_ldA (A := A) (cs := (iv .u8 b)) (hb.keep H.keep) (some 28) 5 i.toNat (.int .u8 (b.getD i.toNat 0)) (by kernel_rfl) (Or.inl ⟨by kernel_rfl, iv_get (by first | omega | (simp only [List.length_append, List.length_cons, List.length_nil, List.length_set, List.length_replicate, List.length_drop, List.length_take, iv_length, Nat.zero_add] at * <;> omega))⟩) ?_
        refine wc_run (T' := [(0, .slice A b.length c), (2, .pointer (some ⟨b1, 0, none⟩)), (4, .pointer (some ⟨b3, 0, none⟩)), (5, .int .i64 i), (19, .int .i64 (i / 8)), (24, .int .u64 (shlV .u64 (q.getD ((i / 8).toNat) 0) 8)), (29, .int .u64 (IntKind.u64.wrap (b.getD i.toNat 0)))]) (L2 := (ol [12, 13, 14])) 1 [0, 2, 4, 5, 19, 24, 29] (by kernel_rfl) ?_
        rw [wu64 (x := b.getD i.toNat 0) (by first | omega | (simp only [List.length_append, List.length_cons, List.length_nil, List.length_set, List.length_replicate, List.length_drop, List.length_take, iv_length, Nat.zero_add] at * <;> omega)) (by first | omega | (simp only [List.length_append, List.length_cons, List.length_nil, List.length_set, List.length_replicate, List.length_drop, List.length_take, iv_length, Nat.zero_add] at * <;> omega))]
        refine wc_run (T' := [(0, .slice A b.length c), (2, .pointer (some ⟨b1, 0, none⟩)), (4, .pointer (some ⟨b3, 0, none⟩)), (5, .int .i64 i), (19, .int .i64 (i / 8)), (30, .int .u64 (bor .u64 (shlV .u64 (q.getD ((i / 8).toNat) 0) 8) (b.getD i.toNat 0)))]) (L2 := (ol [13, 14])) 1 [0, 2, 4, 5, 19, 30] (by kernel_rfl) ?_
        refine wc_ix (b := b3) (off := 0) (o' := (i / 8).toNat) (some 31) (some ⟨b3, 0, none⟩) 13 1 (i / 8) (by kernel_rfl) rfl (by omega) (by omega) (by omega) ?_
        refine wc_st (b := b3) (off := (i / 8).toNat) (Tb := 61) (vs := ([.int .u64 (bor .u64 (shlV .u64 (q.getD ((i / 8).toNat) 0) 8) (b.getD i.toNat 0))])) (cs' := (iv .u64 (q.set ((i / 8).toNat) (bor .u64 (shlV .u64 (q.getD ((i / 8).toNat) 0) 8) (b.getD i.toNat 0))))) H 0 22 (.int .u64 (bor .u64 (shlV .u64 (q.getD ((i / 8).toNat) 0) 8) (b.getD i.toNat 0))) 1 (by kernel_rfl) rfl rfl (by rfl) (by first | (simp only [iv_length, List.length_set, List.length_replicate, *]; done) | (simp [iv_length, *]; done) | (simp [Value.cells, iv_length, *]; done) | omega | (simp [Value.cells, iv_length] <;> omega)) (by simp [Value.oneCell']) (by exact iv_set _ _ _ _ (by first | (simp only [iv_length, List.length_set, List.length_replicate, *]; done) | (simp [iv_length, *]; done) | (simp [Value.cells, iv_length, *]; done) | omega | (simp [Value.cells, iv_length] <;> omega))) (fun w16 H => ?_)
        dsimp only [List.set] at H
        refine wc_nil rfl ?_
        refine n_np ?_
        refine n_blk ?_
        refine n_sq ?_
        refine wn_reg 3 (by kernel_rfl) ?_
        refine wc_run (T' := [(0, .slice A b.length c), (2, .pointer (some ⟨b1, 0, none⟩)), (4, .pointer (some ⟨b3, 0, none⟩)), (17, .int .i64 (IntKind.i64.wrap (i + 1)))]) (L2 := (rng 2 1)) 2 [0, 2, 4, 17] (by kernel_rfl) ?_
        rw [wi64 (x := i + 1) (by first | omega | (simp only [List.length_append, List.length_cons, List.length_nil, List.length_set, List.length_replicate, List.length_drop, List.length_take, iv_length, Nat.zero_add] at * <;> omega)) (by first | omega | (simp only [List.length_append, List.length_cons, List.length_nil, List.length_set, List.length_replicate, List.length_drop, List.length_take, iv_length, Nat.zero_add] at * <;> omega))]
        refine wc_run (T' := [(0, .slice A b.length c), (2, .pointer (some ⟨b1, 0, none⟩)), (4, .pointer (some ⟨b3, 0, none⟩)), (5, .int .i64 (i + 1))]) (L2 := (rng 3 0)) 1 [0, 2, 4, 5] (by kernel_rfl) ?_
        refine wc_nil rfl ?_
        refine round_end (i + 1, q.set ((i / 8).toNat) (bor .u64 (shlV .u64 (q.getD ((i / 8).toNat) 0) 8) (b.getD i.toNat 0))) [0, 2, 4, 5] (by kernel_rfl) ⟨H, ?_⟩ ?_
        · obtain ⟨h1, h2, h3, h4⟩ := hi
          have e1 : (i + 1).toNat = i.toNat + 1 := by omega
          have e2 : (i / 8).toNat = i.toNat / 8 := by omega
          refine ⟨by omega, by omega, by simp [h3], ?_⟩
          rw [e1, e2, itN, wdS, ← h4]
        · first | omega | (dsimp only; omega)
      · have hc14 := of_decide_eq_false hc14
        refine wn_exit 0 (by kernel_rfl) ?_
        refine e_sq ?_
        refine e_then ?_
        refine e_blk ?_
        refine n_sq ?_
        refine wn_seq (by kernel_rfl) ?_
        refine wn_reg 3 (by kernel_rfl) ?_
        refine wc_ld (b := b3) (off := 0) (some 32) 61 (.agg (iv .u64 q).toArray) (by kernel_rfl) (Ld.entW H 0 (n := 13) rfl (by kernel_rfl) (by first | (simp only [iv_length, List.length_set, List.length_replicate, *]; done) | (simp [iv_length, *]; done) | (simp [Value.cells, iv_length, *]; done) | omega | (simp [Value.cells, iv_length] <;> omega))) ?_
        refine wc_st (b := b1) (off := 0) (Tb := 61) (vs := (iv .u64 q)) (cs' := (iv .u64 q)) H 1 61 (.agg (iv .u64 q).toArray) 13 (by kernel_rfl) rfl rfl (by first | (simp only [iv_length, List.length_set, List.length_replicate, *]; done) | (simp [iv_length, *]; done) | (simp [Value.cells, iv_length, *]; done) | omega | (simp [Value.cells, iv_length] <;> omega)) (by have h := (iv_length .u64 (List.replicate 13 0)).trans List.length_replicate; omega) (by exact iv_flat _ _) (by first | rfl | exact blit_all _ _ (by first | (simp only [iv_length, List.length_set, List.length_replicate, *]; done) | (simp [iv_length, *]; done) | (simp [Value.cells, iv_length, *]; done) | omega | (simp [Value.cells, iv_length] <;> omega)) | (simp [blit, List.drop_append, List.take_append, iv_length, *]; done)) (fun w17 H => ?_)
        dsimp only [List.set] at H
        refine wc_run (T' := [(2, .pointer (some ⟨b1, 0, none⟩)), (3, .int .i64 0)]) (L2 := (rng 3 0)) 1 [2, 3] (by kernel_rfl) ?_
        refine wc_nil rfl ?_
        refine n_sq ?_
        refine wn_ret (by kernel_rfl) ?_
        refine ret2 _ (Or.inr rfl) Try.results31 ⟨_, _, rfl, Ld.entW H 1 (n := 13) rfl (by kernel_rfl) (by first | (simp only [iv_length, List.length_set, List.length_replicate, *]; done) | (simp [iv_length, *]; done) | (simp [Value.cells, iv_length, *]; done) | omega | (simp [Value.cells, iv_length] <;> omega))⟩ rfl ?_
        have he18 : mwW b = q := by
          unfold mwW; rw [if_pos (by omega)]
          obtain ⟨h1, h2, h3, h4⟩ := hi
          have e : i.toNat = 104 := by omega
          rw [h4, e, wdF]
        have he19 : mwE b = (0 : Int) := by
          unfold mwE; split <;> first | omega | (split <;> omega)
        exact ⟨by first | (rw [he18, he19]; done) | (rw [he18, he19]; rfl), H.nil, by exact mwW_length _⟩
end Go.Proofs.Ytfeecdcanjkohaa
