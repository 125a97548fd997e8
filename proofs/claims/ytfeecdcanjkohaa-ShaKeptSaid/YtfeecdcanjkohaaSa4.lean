/-
  Walks of some of this seat's functions: each call's answer, and what it leaves of memory. No condition beside those that stand in each theorem.
-/
import Derived.Test.YtfeecdcanjkohaaRows
import Derived.Test.YtfeecdcanjkohaaSa2
import Derived.Test.YtfeecdcanjkohaaSa3
set_option linter.all false
namespace Go.Proofs.Ytfeecdcanjkohaa
open Go.RowKit Go.Px

def byt32 (x : Int) (j : Nat) : Int := IntKind.u8.wrap (shrV .u32 x (24 - 8 * (j : Int)))
def ouS (h : List Int) (p : Nat) (q : List Int) : List Int := q.set p (byt32 (h.getD (p / 4) 0) (p % 4))
def hnS (p : List Int) (j : Nat) (h : List Int) : List Int := cmpF h ((p.drop (64 * j)).take 64)
def hN (b : List Int) : List Int := itN (hnS (padF b)) ((padF b).length / 64) H256
def shaF (b : List Int) : List Int := itN (ouS (hN b)) 32 (List.replicate 32 0)
theorem shaF_length (b : List Int) : (shaF b).length = 32 := itN_length (fun j q h => by simp [ouS, h]) _ _ (by simp)

noncomputable def cd_sha_Sum : Code := (Try.f32.body).getD .skip
theorem sha_Sum (w : World) (b : List Int) (B : Option Addr) (d : Nat) (hb : Rd w B (iv .u8 b)) (hn : b.length ≤ 140737488355000) :
    Calls Try.prog 32 #[.slice B b.length d] w (fun e w' => e = .returned (.agg (iv .u8 (shaF b)).toArray) ∧ Hp no w w' [] ∧ (shaF b).length = 32) := by
  have hp := padF_mod b
  have hple := padF_le b
  refine enter (args := [_]) (c := cd_sha_Sum) (N := 49) Try.func32 (by kernel_rfl) (by kernel_rfl) (by simp) ?_
  have H := Hp.start w
  refine wn_seq (by kernel_rfl) ?_
  refine wn_reg 1 (by kernel_rfl) ?_
  refine wc_new H (some 2) (row (iv .u8 (List.replicate 32 0)) 47) (fun r => .pointer (some ⟨r, 0, none⟩)) (by kernel_rfl) (fun b1 w2 H => ?_)
  refine wc_nil rfl ?_
  refine n_sq ?_
  refine wn_seq (by kernel_rfl) ?_
  refine wn_reg 6 (by kernel_rfl) ?_
  refine wc_call (some 10) (by kernel_rfl) (sha_factors w2) ?_
  rintro _ w3 ⟨rfl, H1, hf4⟩
  refine ⟨_, rfl, fun _ => H1.keep, ?_⟩
  replace H := H.call H1
  simp only [List.nil_append] at H
  refine wc_call (some 11) (by kernel_rfl) (sha_first w3) ?_
  rintro _ w5 ⟨rfl, H1, hf6⟩
  refine ⟨_, rfl, fun _ => H1.keep, ?_⟩
  replace H := H.call H1
  simp only [List.nil_append] at H
  refine wc_new H (some 3) (row (iv .u32 (List.replicate 64 0)) 88) (fun r => .pointer (some ⟨r, 0, none⟩)) (by kernel_rfl) (fun b7 w8 H => ?_)
  refine wc_new H (some 4) (row (iv .u32 (List.replicate 8 0)) 90) (fun r => .pointer (some ⟨r, 0, none⟩)) (by kernel_rfl) (fun b9 w10 H => ?_)
  refine wc_st (b := b7) (off := 0) (Tb := 88) (vs := (iv .u32 K256)) (cs' := (iv .u32 K256)) H 1 88 (.agg (iv .u32 K256).toArray) 64 (by kernel_rfl) rfl rfl (by exact (iv_length .u32 K256).trans hf4) (by have h := (iv_length .u32 (List.replicate 64 0)).trans List.length_replicate; omega) (by exact iv_flat _ _) (by exact blit_all _ _ ((show (iv .u32 K256 : List Value).length = 64 from (iv_length .u32 K256).trans hf4).trans (show (iv .u32 (List.replicate 64 0) : List Value).length = 64 from (iv_length .u32 (List.replicate 64 0)).trans List.length_replicate).symm)) (fun w11 H => ?_)
  dsimp only [List.set] at H
  refine wc_st (b := b9) (off := 0) (Tb := 90) (vs := (iv .u32 H256)) (cs' := (iv .u32 H256)) H 0 90 (.agg (iv .u32 H256).toArray) 8 (by kernel_rfl) rfl rfl (by exact (iv_length .u32 H256).trans hf6) (by have h := (iv_length .u32 (List.replicate 8 0)).trans List.length_replicate; omega) (by exact iv_flat _ _) (by exact blit_all _ _ ((show (iv .u32 H256 : List Value).length = 8 from (iv_length .u32 H256).trans hf6).trans (show (iv .u32 (List.replicate 8 0) : List Value).length = 8 from (iv_length .u32 (List.replicate 8 0)).trans List.length_replicate).symm)) (fun w12 H => ?_)
  dsimp only [List.set] at H
  refine wc_nil rfl ?_
  refine n_sq ?_
  refine wn_seq (by kernel_rfl) ?_
  refine wn_reg 3 (by kernel_rfl) ?_
  refine wc_run (T' := [(2, .pointer (some ⟨b1, 0, none⟩)), (3, .pointer (some ⟨b7, 0, none⟩)), (4, .pointer (some ⟨b9, 0, none⟩)), (12, .slice B b.length d)]) (L2 := (rng 1 2)) 1 [2, 3, 4, 12] (by kernel_rfl) ?_
  refine wc_call (some 13) (by kernel_rfl) (sha_padded w12 b B d (hb.keep H.keep) hn) ?_
  rintro _ w15 ⟨A13, c14, rfl, H1⟩
  refine ⟨_, rfl, fun _ => H1.keep, ?_⟩
  replace H := H.call H1
  simp only [List.nil_append, List.cons_append] at H
  refine wc_run (T' := [(2, .pointer (some ⟨b1, 0, none⟩)), (3, .pointer (some ⟨b7, 0, none⟩)), (4, .pointer (some ⟨b9, 0, none⟩)), (5, .slice A13 ((padF b).length) c14)]) (L2 := (rng 3 0)) 1 [2, 3, 4, 5] (by kernel_rfl) ?_
  refine wc_nil rfl ?_
  refine n_sq ?_
  refine wn_seq (by kernel_rfl) ?_
  refine wn_block 0 (by kernel_rfl) ?_
  have hcap := (H.slLen 0 rfl).2.1
  replace H := H.toRd 0 rfl
  dsimp only [List.set] at H
  refine wn_loop (fun ((j, l, hv, A, c) : Nat × List Int × List Int × Option Addr × Nat) => [(2, .pointer (some ⟨b1, 0, none⟩)), (3, .pointer (some ⟨b7, 0, none⟩)), (4, .pointer (some ⟨b9, 0, none⟩)), (5, .slice A l.length c)]) (fun ((j, l, hv, A, c) : Nat × List Int × List Int × Option Addr × Nat) w' => Hp no w w' [.pr (fun w => Rd w A (iv .u8 l)), .bk b9 (row (iv .u32 hv) 90), .bk b7 (row (iv .u32 K256) 88), .bk b1 (row (iv .u8 (List.replicate 32 0)) 47)] ∧ l.length ≤ c ∧ l = (padF b).drop (64 * j) ∧ 64 * j ≤ (padF b).length ∧ hv.length = 8 ∧ hv = itN (hnS (padF b)) j H256) (fun ((j, l, hv, A, c) : Nat × List Int × List Int × Option Addr × Nat) => l.length) (0, (padF b), H256, A13, c14) [2, 3, 4, 5] (by kernel_rfl) rfl ⟨H, by exact ⟨hcap, rfl, by omega, rfl, rfl⟩⟩ ?_
  rintro ⟨j, l, hv, A, c⟩ w16 ⟨H, hi⟩
  try dsimp only at H hi
  refine wn_pick (T' := [(2, .pointer (some ⟨b1, 0, none⟩)), (3, .pointer (some ⟨b7, 0, none⟩)), (4, .pointer (some ⟨b9, 0, none⟩)), (5, .slice A l.length c)]) [2, 3, 4, 5] (by kernel_rfl) ?_
  have hll : l.length = (padF b).length - 64 * j := by rw [hi.2.1, List.length_drop]
  have hh8 := hi.2.2.2.1
  refine wn_seq (by kernel_rfl) ?_
  refine wn_seq (by kernel_rfl) ?_
  refine wn_reg 3 (by kernel_rfl) ?_
  refine wc_run (T' := [(2, .pointer (some ⟨b1, 0, none⟩)), (3, .pointer (some ⟨b7, 0, none⟩)), (4, .pointer (some ⟨b9, 0, none⟩)), (5, .slice A l.length c), (16, .bool (decide ((↑l.length : Int) > (0 : Int))))]) (L2 := (rng 3 0)) 3 [2, 3, 4, 5, 16] (by kernel_rfl) ?_
  refine wc_nil rfl ?_
  refine n_sq ?_
  refine wn_cond (.tmp 16) (decide ((↑l.length : Int) > (0 : Int))) (by kernel_rfl) rfl (fun hc17 => ?_) (fun hc17 => ?_)
  · have hc17 := of_decide_eq_true hc17
    refine wn_skip (by kernel_rfl) ?_
    refine n_sq ?_
    refine wn_block 1 (by kernel_rfl) ?_
    refine wn_seq (by kernel_rfl) ?_
    refine wn_regD [] (ol [0, 1, 2, 3, 4]) (by kernel_rfl) H (fun w18 H => ?_)
    refine wc_ld (b := b9) (off := 0) (some 17) 90 (.agg (iv .u32 hv).toArray) (by kernel_rfl) (Ld.entW H 1 (n := 8) rfl (by kernel_rfl) (by first | (simp only [iv_length, List.length_set, List.length_replicate, *]; done) | (simp [iv_length, *]; done) | (simp [Value.cells, iv_length, *]; done) | omega | (simp [Value.cells, iv_length] <;> omega))) ?_
    refine wc_run (T' := [(2, .pointer (some ⟨b1, 0, none⟩)), (3, .pointer (some ⟨b7, 0, none⟩)), (4, .pointer (some ⟨b9, 0, none⟩)), (5, .slice A l.length c), (17, .agg (iv .u32 hv).toArray), (18, .slice A l.length c)]) (L2 := (ol [2, 3, 4])) 1 [2, 3, 4, 5, 17, 18] (by kernel_rfl) ?_
    refine wc_sl (some 19) A l.length c 1 none (some 64) (some 64) A 64 64 (by kernel_rfl) (by kernel_rfl) (by simp) (by first | decide | omega | (simp only [Option.getD_some, Option.getD_none]; first | decide | omega | (simp only [List.length_append, List.length_cons, List.length_nil, List.length_drop, List.length_take] at * <;> omega))) (by first | decide | omega | (simp only [Option.getD_some, Option.getD_none]; first | decide | omega | (simp only [List.length_append, List.length_cons, List.length_nil, List.length_drop, List.length_take] at * <;> omega))) (by first | decide | omega | (simp only [Option.getD_some, Option.getD_none]; first | decide | omega | (simp only [List.length_append, List.length_cons, List.length_nil, List.length_drop, List.length_take] at * <;> omega))) (by first | decide | omega | (simp only [Option.getD_some, Option.getD_none]; first | decide | omega | (simp only [List.length_append, List.length_cons, List.length_nil, List.length_drop, List.length_take] at * <;> omega))) (by first | decide | omega | (simp only [Option.getD_some, Option.getD_none]; first | decide | omega | (simp only [List.length_append, List.length_cons, List.length_nil, List.length_drop, List.length_take] at * <;> omega))) (by first | decide | omega | (simp only [Option.getD_some, Option.getD_none]; first | decide | omega | (simp only [List.length_append, List.length_cons, List.length_nil, List.length_drop, List.length_take] at * <;> omega))) (by exact slA_zero _ _ _) ?_
    refine wc_call (some 20) (by kernel_rfl) (sha_through w18 hv b7 (l.take 64) A 64 64 (by first | with_reducible assumption | omega | (simp_all; done)) (Rd.of_ent H (k := 2) (off := 0) (n := 64) rfl (by exact List.take_of_length_le (Nat.le_of_eq (by exact (iv_length .u32 K256).trans hf4)))) (Rd.pre (H.pr 0 rfl) 64) (by rw [List.length_take]; omega) rfl) ?_
    rintro _ w19 ⟨rfl, H1, hf20⟩
    refine ⟨_, rfl, fun _ => H1.keep, ?_⟩
    replace H := H.call H1
    simp only [List.nil_append] at H
    refine wc_st (b := b9) (off := 0) (Tb := 90) (vs := (iv .u32 (cmpF hv (l.take 64)))) (cs' := (iv .u32 (cmpF hv (l.take 64)))) H 1 90 (.agg (iv .u32 (cmpF hv (l.take 64))).toArray) 8 (by kernel_rfl) rfl rfl (by exact (iv_length .u32 (cmpF hv (l.take 64))).trans hf20) (by first | (simp only [iv_length, List.length_set, List.length_replicate, *]; done) | (simp [iv_length, *]; done) | (simp [Value.cells, iv_length, *]; done) | omega | (simp [Value.cells, iv_length] <;> omega)) (by exact iv_flat _ _) (by first | rfl | exact blit_all _ _ (by first | (simp only [iv_length, List.length_set, List.length_replicate, *]; done) | (simp [iv_length, *]; done) | (simp [Value.cells, iv_length, *]; done) | omega | (simp [Value.cells, iv_length] <;> omega)) | (simp [blit, List.drop_append, List.take_append, iv_length, *]; done)) (fun w21 H => ?_)
    dsimp only [List.set] at H
    refine wc_nil rfl ?_
    refine n_np ?_
    refine n_sq ?_
    refine wn_reg 7 (by kernel_rfl) ?_
    refine wc_run (T' := [(2, .pointer (some ⟨b1, 0, none⟩)), (3, .pointer (some ⟨b7, 0, none⟩)), (4, .pointer (some ⟨b9, 0, none⟩)), (21, .slice A l.length c), (23, .int .i64 (↑l.length : Int)), (25, .int .i64 (↑l.length : Int))]) (L2 := (rng 5 2)) 5 [2, 3, 4, 21, 23, 25] (by kernel_rfl) ?_
    refine wc_sl (some 26) A l.length c 1 (some 64) (some (↑l.length : Int)) (some (↑l.length : Int)) (slA A 64 l.length 1) (l.length - 64) (l.length - 64) (by kernel_rfl) (by kernel_rfl) (by simp) (by first | decide | omega | (simp only [Option.getD_some, Option.getD_none]; first | decide | omega | (simp only [List.length_append, List.length_cons, List.length_nil, List.length_drop, List.length_take] at * <;> omega))) (by first | decide | omega | (simp only [Option.getD_some, Option.getD_none]; first | decide | omega | (simp only [List.length_append, List.length_cons, List.length_nil, List.length_drop, List.length_take] at * <;> omega))) (by first | decide | omega | (simp only [Option.getD_some, Option.getD_none]; first | decide | omega | (simp only [List.length_append, List.length_cons, List.length_nil, List.length_drop, List.length_take] at * <;> omega))) (by first | decide | omega | (simp only [Option.getD_some, Option.getD_none]; first | decide | omega | (simp only [List.length_append, List.length_cons, List.length_nil, List.length_drop, List.length_take] at * <;> omega))) (by first | decide | omega | (simp only [Option.getD_some, Option.getD_none]; first | decide | omega | (simp only [List.length_append, List.length_cons, List.length_nil, List.length_drop, List.length_take] at * <;> omega))) (by first | decide | omega | (simp only [Option.getD_some, Option.getD_none]; first | decide | omega | (simp only [List.length_append, List.length_cons, List.length_nil, List.length_drop, List.length_take] at * <;> omega))) (by first | rfl | (congr 1 <;> first | omega | (simp only [List.length_append, List.length_cons, List.length_nil, List.length_set, List.length_replicate, List.length_drop, List.length_take, iv_length, Nat.zero_add] at * <;> omega))) ?_
    refine wc_run (T' := [(2, .pointer (some ⟨b1, 0, none⟩)), (3, .pointer (some ⟨b7, 0, none⟩)), (4, .pointer (some ⟨b9, 0, none⟩)), (5, .slice (slA A 64 l.length 1) (l.length - 64) (l.length - 64))]) (L2 := (rng 7 0)) 1 [2, 3, 4, 5] (by kernel_rfl) ?_
    refine wc_nil rfl ?_
    refine n_blk ?_
    replace H := H.prTo 0 rfl (fun w h => h.part 64 l.length (l.length - 64) (by omega))
    dsimp only [List.set] at H
    rw [List.take_of_length_le (by rw [List.length_drop]; omega)] at H
    rw [show l.length - 64 = (l.drop 64).length from by rw [List.length_drop]]
    refine round_end ((j + 1), (l.drop 64), (cmpF hv (l.take 64)), (slA A 64 l.length 1), (l.drop 64).length) [2, 3, 4, 5] (by kernel_rfl) ⟨H, ?_⟩ ?_
    · obtain ⟨h1, h2, h3, h4, h5⟩ := hi
      refine ⟨Nat.le_refl _, by rw [h2, List.drop_drop]; congr 1, by omega, by assumption, ?_⟩
      rw [itN, hnS, ← h5, h2]
    · simp only [List.length_drop]; omega
  · have hc17 := of_decide_eq_false hc17
    refine wn_exit 0 (by kernel_rfl) ?_
    refine e_sq ?_
    refine e_then ?_
    refine e_blk ?_
    refine n_sq ?_
    refine wn_seq (by kernel_rfl) ?_
    refine wn_reg 1 (by kernel_rfl) ?_
    refine wc_new H (some 6) (row (iv .u8 (List.replicate 32 0)) 47) (fun r => .pointer (some ⟨r, 0, none⟩)) (by kernel_rfl) (fun b22 w23 H => ?_)
    refine wc_nil rfl ?_
    refine n_sq ?_
    refine wn_seq (by kernel_rfl) ?_
    refine wn_seq (by kernel_rfl) ?_
    refine wn_reg 2 (by kernel_rfl) ?_
    refine wc_ld (b := b9) (off := 0) (some 27) 90 (.agg (iv .u32 hv).toArray) (by kernel_rfl) (Ld.entW H 2 (n := 8) rfl (by kernel_rfl) (by first | (simp only [iv_length, List.length_set, List.length_replicate, *]; done) | (simp [iv_length, *]; done) | (simp [Value.cells, iv_length, *]; done) | omega | (simp [Value.cells, iv_length] <;> omega))) ?_
    refine wc_run (T' := [(2, .pointer (some ⟨b1, 0, none⟩)), (6, .pointer (some ⟨b22, 0, none⟩)), (27, .agg (iv .u32 hv).toArray), (28, .int .i64 0)]) (L2 := (rng 2 0)) 1 [2, 6, 27, 28] (by kernel_rfl) ?_
    refine wc_nil rfl ?_
    refine n_sq ?_
    refine wn_block 2 (by kernel_rfl) ?_
    obtain ⟨hs1, hs2, hs3, hs4, hs5⟩ := hi
    have hs6 : (padF b).length / 64 = j := by omega
    refine wn_loop (fun ((i, q) : Int × List Int) => [(2, .pointer (some ⟨b1, 0, none⟩)), (6, .pointer (some ⟨b22, 0, none⟩)), (27, .agg (iv .u32 hv).toArray), (28, .int .i64 i)]) (fun ((i, q) : Int × List Int) w' => Hp no w w' [.bk b22 (row (iv .u8 q) 47), .pr (fun w => Rd w A (iv .u8 l)), .bk b9 (row (iv .u32 hv) 90), .bk b7 (row (iv .u32 K256) 88), .bk b1 (row (iv .u8 (List.replicate 32 0)) 47)] ∧ 0 ≤ i ∧ i ≤ 8 ∧ q.length = 32 ∧ q = itN (ouS hv) (4 * i.toNat) (List.replicate 32 0)) (fun ((i, q) : Int × List Int) => (8 - i).toNat) ((0 : Int), (List.replicate 32 0)) [2, 6, 27, 28] (by kernel_rfl) rfl ⟨H, by simp [itN]⟩ ?_
    rintro ⟨i, q⟩ w24 ⟨H, hi⟩
    try dsimp only at H hi
    refine wn_pick (T' := [(2, .pointer (some ⟨b1, 0, none⟩)), (6, .pointer (some ⟨b22, 0, none⟩)), (27, .agg (iv .u32 hv).toArray), (28, .int .i64 i)]) [2, 6, 27, 28] (by kernel_rfl) ?_
    refine wn_seq (by kernel_rfl) ?_
    refine wn_reg 1 (by kernel_rfl) ?_
    refine wc_run (T' := [(2, .pointer (some ⟨b1, 0, none⟩)), (6, .pointer (some ⟨b22, 0, none⟩)), (27, .agg (iv .u32 hv).toArray), (28, .int .i64 i), (29, .bool (decide (i < (8 : Int))))]) (L2 := (rng 1 0)) 1 [2, 6, 27, 28, 29] (by kernel_rfl) ?_
    refine wc_nil rfl ?_
    refine n_sq ?_
    refine wn_seq (by kernel_rfl) ?_
    refine wn_cond (.tmp 29) (decide (i < (8 : Int))) (by kernel_rfl) rfl (fun hc25 => ?_) (fun hc25 => ?_)
    · have hc25 := of_decide_eq_true hc25
      refine wn_skip (by kernel_rfl) ?_
      refine n_sq ?_
      refine wn_seq (by kernel_rfl) ?_
      refine wn_block 3 (by kernel_rfl) ?_
      refine wn_seq (by kernel_rfl) ?_
      refine wn_reg 4 (by kernel_rfl) ?_
      refine wc_run (T' := [(2, .pointer (some ⟨b1, 0, none⟩)), (6, .pointer (some ⟨b22, 0, none⟩)), (27, .agg (iv .u32 hv).toArray), (28, .int .i64 i), (30, .int .i64 i)]) (L2 := (rng 1 3)) 1 [2, 6, 27, 28, 30] (by kernel_rfl) ?_
      refine wc_iv (cs := (iv .u32 hv)) (some 31) 87 8 1 i (.int .u32 (hv.getD (i).toNat 0)) (by kernel_rfl) (by kernel_rfl) (by omega) (by omega) (Or.inl ⟨by kernel_rfl, by rw [Nat.mul_one]; exact iv_get (by first | (simp only [iv_length, List.length_set, List.length_replicate, *]; done) | (simp [iv_length, *]; done) | (simp [Value.cells, iv_length, *]; done) | omega | (simp [Value.cells, iv_length] <;> omega))⟩) ?_
      refine wc_run (T' := [(2, .pointer (some ⟨b1, 0, none⟩)), (6, .pointer (some ⟨b22, 0, none⟩)), (7, .int .i64 i), (8, .int .u32 (hv.getD (i).toNat 0)), (27, .agg (iv .u32 hv).toArray), (28, .int .i64 i)]) (L2 := (rng 4 0)) 2 [2, 6, 7, 8, 27, 28] (by kernel_rfl) ?_
      refine wc_nil rfl ?_
      refine n_sq ?_
      refine wn_seq (by kernel_rfl) ?_
      refine wn_reg 1 (by kernel_rfl) ?_
      refine wc_run (T' := [(2, .pointer (some ⟨b1, 0, none⟩)), (6, .pointer (some ⟨b22, 0, none⟩)), (7, .int .i64 i), (8, .int .u32 (hv.getD (i).toNat 0)), (27, .agg (iv .u32 hv).toArray), (28, .int .i64 i), (32, .int .i64 0)]) (L2 := (rng 1 0)) 1 [2, 6, 7, 8, 27, 28, 32] (by kernel_rfl) ?_
      refine wc_nil rfl ?_
      refine n_sq ?_
      refine wn_block 4 (by kernel_rfl) ?_
      obtain ⟨ho1, ho2, ho3, ho4⟩ := hi
      refine wn_loop (fun ((k, q) : Int × List Int) => [(2, .pointer (some ⟨b1, 0, none⟩)), (6, .pointer (some ⟨b22, 0, none⟩)), (7, .int .i64 i), (8, .int .u32 (hv.getD (i).toNat 0)), (27, .agg (iv .u32 hv).toArray), (28, .int .i64 i), (32, .int .i64 k)]) (fun ((k, q) : Int × List Int) w' => Hp no w w' [.bk b22 (row (iv .u8 q) 47), .pr (fun w => Rd w A (iv .u8 l)), .bk b9 (row (iv .u32 hv) 90), .bk b7 (row (iv .u32 K256) 88), .bk b1 (row (iv .u8 (List.replicate 32 0)) 47)] ∧ 0 ≤ k ∧ k ≤ 4 ∧ q.length = 32 ∧ q = itN (ouS hv) (4 * i.toNat + k.toNat) (List.replicate 32 0)) (fun ((k, q) : Int × List Int) => (4 - k).toNat) ((0 : Int), q) [2, 6, 7, 8, 27, 28, 32] (by kernel_rfl) rfl ⟨H, by exact ⟨by omega, by omega, ho3, by rw [ho4]; rfl⟩⟩ ?_
      rintro ⟨k, q⟩ w26 ⟨H, hi⟩
      try dsimp only at H hi
      refine wn_pick (T' := [(2, .pointer (some ⟨b1, 0, none⟩)), (6, .pointer (some ⟨b22, 0, none⟩)), (7, .int .i64 i), (8, .int .u32 (hv.getD (i).toNat 0)), (27, .agg (iv .u32 hv).toArray), (28, .int .i64 i), (32, .int .i64 k)]) [2, 6, 7, 8, 27, 28, 32] (by kernel_rfl) ?_
      refine wn_seq (by kernel_rfl) ?_
      refine wn_reg 1 (by kernel_rfl) ?_
      refine wc_run (T' := [(2, .pointer (some ⟨b1, 0, none⟩)), (6, .pointer (some ⟨b22, 0, none⟩)), (7, .int .i64 i), (8, .int .u32 (hv.getD (i).toNat 0)), (27, .agg (iv .u32 hv).toArray), (28, .int .i64 i), (32, .int .i64 k), (33, .bool (decide (k < (4 : Int))))]) (L2 := (rng 1 0)) 1 [2, 6, 7, 8, 27, 28, 32, 33] (by kernel_rfl) ?_
      refine wc_nil rfl ?_
      refine n_sq ?_
      refine wn_seq (by kernel_rfl) ?_
      refine wn_cond (.tmp 33) (decide (k < (4 : Int))) (by kernel_rfl) rfl (fun hc27 => ?_) (fun hc27 => ?_)
      · have hc27 := of_decide_eq_true hc27
        refine wn_skip (by kernel_rfl) ?_
        refine n_sq ?_
        refine wn_seq (by kernel_rfl) ?_
        refine wn_block 5 (by kernel_rfl) ?_
        refine wn_seq (by kernel_rfl) ?_
        refine wn_reg 2 (by kernel_rfl) ?_
        refine wc_run (T' := [(2, .pointer (some ⟨b1, 0, none⟩)), (6, .pointer (some ⟨b22, 0, none⟩)), (7, .int .i64 i), (8, .int .u32 (hv.getD (i).toNat 0)), (9, .int .i64 k), (27, .agg (iv .u32 hv).toArray), (28, .int .i64 i), (32, .int .i64 k)]) (L2 := (rng 2 0)) 2 [2, 6, 7, 8, 9, 27, 28, 32] (by kernel_rfl) ?_
        refine wc_nil rfl ?_
        refine n_sq ?_
        refine wn_reg 12 (by kernel_rfl) ?_
        refine wc_run (T' := [(2, .pointer (some ⟨b1, 0, none⟩)), (6, .pointer (some ⟨b22, 0, none⟩)), (7, .int .i64 i), (8, .int .u32 (hv.getD (i).toNat 0)), (9, .int .i64 k), (27, .agg (iv .u32 hv).toArray), (28, .int .i64 i), (32, .int .i64 k), (36, .int .i64 (IntKind.i64.wrap (i * 4)))]) (L2 := (rng 2 10)) 2 [2, 6, 7, 8, 9, 27, 28, 32, 36] (by kernel_rfl) ?_
        rw [wi64 (x := i * 4) (by first | omega | (simp only [List.length_append, List.length_cons, List.length_nil, List.length_set, List.length_replicate, List.length_drop, List.length_take, iv_length, Nat.zero_add] at * <;> omega)) (by first | omega | (simp only [List.length_append, List.length_cons, List.length_nil, List.length_set, List.length_replicate, List.length_drop, List.length_take, iv_length, Nat.zero_add] at * <;> omega))]
        refine wc_run (T' := [(2, .pointer (some ⟨b1, 0, none⟩)), (6, .pointer (some ⟨b22, 0, none⟩)), (7, .int .i64 i), (8, .int .u32 (hv.getD (i).toNat 0)), (9, .int .i64 k), (27, .agg (iv .u32 hv).toArray), (28, .int .i64 i), (32, .int .i64 k), (38, .int .i64 (IntKind.i64.wrap ((i * 4) + k)))]) (L2 := (rng 4 8)) 2 [2, 6, 7, 8, 9, 27, 28, 32, 38] (by kernel_rfl) ?_
        rw [wi64 (x := (i * 4) + k) (by first | omega | (simp only [List.length_append, List.length_cons, List.length_nil, List.length_set, List.length_replicate, List.length_drop, List.length_take, iv_length, Nat.zero_add] at * <;> omega)) (by first | omega | (simp only [List.length_append, List.length_cons, List.length_nil, List.length_set, List.length_replicate, List.length_drop, List.length_take, iv_length, Nat.zero_add] at * <;> omega))]
        refine wc_run (T' := [(2, .pointer (some ⟨b1, 0, none⟩)), (6, .pointer (some ⟨b22, 0, none⟩)), (7, .int .i64 i), (8, .int .u32 (hv.getD (i).toNat 0)), (27, .agg (iv .u32 hv).toArray), (28, .int .i64 i), (32, .int .i64 k), (38, .int .i64 ((i * 4) + k)), (39, .int .u32 (hv.getD (i).toNat 0)), (41, .int .i64 (IntKind.i64.wrap (8 * k)))]) (L2 := (rng 7 5)) 3 [2, 6, 7, 8, 27, 28, 32, 38, 39, 41] (by kernel_rfl) ?_
        rw [wi64 (x := 8 * k) (by first | omega | (simp only [List.length_append, List.length_cons, List.length_nil, List.length_set, List.length_replicate, List.length_drop, List.length_take, iv_length, Nat.zero_add] at * <;> omega)) (by first | omega | (simp only [List.length_append, List.length_cons, List.length_nil, List.length_set, List.length_replicate, List.length_drop, List.length_take, iv_length, Nat.zero_add] at * <;> omega))]
        refine wc_run (T' := [(2, .pointer (some ⟨b1, 0, none⟩)), (6, .pointer (some ⟨b22, 0, none⟩)), (7, .int .i64 i), (8, .int .u32 (hv.getD (i).toNat 0)), (27, .agg (iv .u32 hv).toArray), (28, .int .i64 i), (32, .int .i64 k), (38, .int .i64 ((i * 4) + k)), (39, .int .u32 (hv.getD (i).toNat 0)), (42, .int .i64 (IntKind.i64.wrap (24 - (8 * k))))]) (L2 := (rng 8 4)) 1 [2, 6, 7, 8, 27, 28, 32, 38, 39, 42] (by kernel_rfl) ?_
        rw [wi64 (x := 24 - (8 * k)) (by first | omega | (simp only [List.length_append, List.length_cons, List.length_nil, List.length_set, List.length_replicate, List.length_drop, List.length_take, iv_length, Nat.zero_add] at * <;> omega)) (by first | omega | (simp only [List.length_append, List.length_cons, List.length_nil, List.length_set, List.length_replicate, List.length_drop, List.length_take, iv_length, Nat.zero_add] at * <;> omega))]
        refine wc_shr (some 43) .u32 (hv.getD (i).toNat 0) (24 - (8 * k)) (by kernel_rfl) (by kernel_rfl) (by omega) ?_
        refine wc_run (T' := [(2, .pointer (some ⟨b1, 0, none⟩)), (6, .pointer (some ⟨b22, 0, none⟩)), (7, .int .i64 i), (8, .int .u32 (hv.getD (i).toNat 0)), (27, .agg (iv .u32 hv).toArray), (28, .int .i64 i), (32, .int .i64 k), (38, .int .i64 ((i * 4) + k)), (44, .int .u8 (IntKind.u8.wrap (shrV .u32 (hv.getD (i).toNat 0) (24 - (8 * k)))))]) (L2 := (rng 10 2)) 1 [2, 6, 7, 8, 27, 28, 32, 38, 44] (by kernel_rfl) ?_
        refine wc_ix (b := b22) (off := 0) (o' := ((i * 4) + k).toNat) (some 45) (some ⟨b22, 0, none⟩) 32 1 ((i * 4) + k) (by kernel_rfl) rfl (by omega) (by omega) (by omega) ?_
        refine wc_st (b := b22) (off := ((i * 4) + k).toNat) (Tb := 47) (vs := ([.int .u8 (IntKind.u8.wrap (shrV .u32 (hv.getD (i).toNat 0) (24 - (8 * k))))])) (cs' := (iv .u8 (q.set (((i * 4) + k).toNat) (IntKind.u8.wrap (shrV .u32 (hv.getD (i).toNat 0) (24 - (8 * k))))))) H 0 5 (.int .u8 (IntKind.u8.wrap (shrV .u32 (hv.getD (i).toNat 0) (24 - (8 * k))))) 1 (by kernel_rfl) rfl rfl (by rfl) (by first | (simp only [iv_length, List.length_set, List.length_replicate, *]; done) | (simp [iv_length, *]; done) | (simp [Value.cells, iv_length, *]; done) | omega | (simp [Value.cells, iv_length] <;> omega)) (by simp [Value.oneCell']) (by exact iv_set _ _ _ _ (by first | (simp only [iv_length, List.length_set, List.length_replicate, *]; done) | (simp [iv_length, *]; done) | (simp [Value.cells, iv_length, *]; done) | omega | (simp [Value.cells, iv_length] <;> omega))) (fun w28 H => ?_)
        dsimp only [List.set] at H
        refine wc_nil rfl ?_
        refine n_blk ?_
        refine n_sq ?_
        refine wn_reg 2 (by kernel_rfl) ?_
        refine wc_run (T' := [(2, .pointer (some ⟨b1, 0, none⟩)), (6, .pointer (some ⟨b22, 0, none⟩)), (7, .int .i64 i), (8, .int .u32 (hv.getD (i).toNat 0)), (27, .agg (iv .u32 hv).toArray), (28, .int .i64 i), (46, .int .i64 (IntKind.i64.wrap (k + 1)))]) (L2 := (rng 1 1)) 1 [2, 6, 7, 8, 27, 28, 46] (by kernel_rfl) ?_
        rw [wi64 (x := k + 1) (by first | omega | (simp only [List.length_append, List.length_cons, List.length_nil, List.length_set, List.length_replicate, List.length_drop, List.length_take, iv_length, Nat.zero_add] at * <;> omega)) (by first | omega | (simp only [List.length_append, List.length_cons, List.length_nil, List.length_set, List.length_replicate, List.length_drop, List.length_take, iv_length, Nat.zero_add] at * <;> omega))]
        refine wc_run (T' := [(2, .pointer (some ⟨b1, 0, none⟩)), (6, .pointer (some ⟨b22, 0, none⟩)), (7, .int .i64 i), (8, .int .u32 (hv.getD (i).toNat 0)), (27, .agg (iv .u32 hv).toArray), (28, .int .i64 i), (32, .int .i64 (k + 1))]) (L2 := (rng 2 0)) 1 [2, 6, 7, 8, 27, 28, 32] (by kernel_rfl) ?_
        refine wc_nil rfl ?_
        refine round_end (k + 1, q.set (((i * 4) + k).toNat) (IntKind.u8.wrap (shrV .u32 (hv.getD (i).toNat 0) (24 - (8 * k))))) [2, 6, 7, 8, 27, 28, 32] (by kernel_rfl) ⟨H, ?_⟩ ?_
        · obtain ⟨h1, h2, h3, h4⟩ := hi
          have e1 : 4 * i.toNat + (k + 1).toNat = (4 * i.toNat + k.toNat) + 1 := by omega
          have e2 : (i * 4 + k).toNat = 4 * i.toNat + k.toNat := by omega
          have e3 : (4 * i.toNat + k.toNat) / 4 = i.toNat := by omega
          have e4 : (((4 * i.toNat + k.toNat) % 4 : Nat) : Int) = k := by omega
          refine ⟨by omega, by omega, by simp [h3], ?_⟩
          rw [e1, itN, ouS, byt32, e2, e3, e4, ← h4]
        · first | omega | (dsimp only; omega)
      · have hc27 := of_decide_eq_false hc27
        refine wn_exit 4 (by kernel_rfl) ?_
        refine e_sq ?_
        refine e_then ?_
        refine e_blk ?_
        refine n_blk ?_
        refine n_sq ?_
        refine wn_reg 2 (by kernel_rfl) ?_
        refine wc_run (T' := [(2, .pointer (some ⟨b1, 0, none⟩)), (6, .pointer (some ⟨b22, 0, none⟩)), (27, .agg (iv .u32 hv).toArray), (47, .int .i64 (IntKind.i64.wrap (i + 1)))]) (L2 := (rng 1 1)) 1 [2, 6, 27, 47] (by kernel_rfl) ?_
        rw [wi64 (x := i + 1) (by first | omega | (simp only [List.length_append, List.length_cons, List.length_nil, List.length_set, List.length_replicate, List.length_drop, List.length_take, iv_length, Nat.zero_add] at * <;> omega)) (by first | omega | (simp only [List.length_append, List.length_cons, List.length_nil, List.length_set, List.length_replicate, List.length_drop, List.length_take, iv_length, Nat.zero_add] at * <;> omega))]
        refine wc_run (T' := [(2, .pointer (some ⟨b1, 0, none⟩)), (6, .pointer (some ⟨b22, 0, none⟩)), (27, .agg (iv .u32 hv).toArray), (28, .int .i64 (i + 1))]) (L2 := (rng 2 0)) 1 [2, 6, 27, 28] (by kernel_rfl) ?_
        refine wc_nil rfl ?_
        refine round_end (i + 1, q) [2, 6, 27, 28] (by kernel_rfl) ⟨H, ?_⟩ ?_
        · obtain ⟨h1, h2, h3, h4⟩ := hi
          have e1 : 4 * (i + 1).toNat = 4 * i.toNat + k.toNat := by omega
          exact ⟨by omega, by omega, h3, by rw [e1]; exact h4⟩
        · first | omega | (dsimp only; omega)
    · have hc25 := of_decide_eq_false hc25
      refine wn_exit 2 (by kernel_rfl) ?_
      refine e_sq ?_
      refine e_then ?_
      refine e_blk ?_
      refine n_sq ?_
      refine wn_seq (by kernel_rfl) ?_
      refine wn_reg 2 (by kernel_rfl) ?_
      refine wc_ld (b := b22) (off := 0) (some 48) 47 (.agg (iv .u8 q).toArray) (by kernel_rfl) (Ld.entW H 0 (n := 32) rfl (by kernel_rfl) (by first | (simp only [iv_length, List.length_set, List.length_replicate, *]; done) | (simp [iv_length, *]; done) | (simp [Value.cells, iv_length, *]; done) | omega | (simp [Value.cells, iv_length] <;> omega))) ?_
      refine wc_st (b := b1) (off := 0) (Tb := 47) (vs := (iv .u8 q)) (cs' := (iv .u8 q)) H 4 47 (.agg (iv .u8 q).toArray) 32 (by kernel_rfl) rfl rfl (by first | (simp only [iv_length, List.length_set, List.length_replicate, *]; done) | (simp [iv_length, *]; done) | (simp [Value.cells, iv_length, *]; done) | omega | (simp [Value.cells, iv_length] <;> omega)) (by have h := (iv_length .u8 (List.replicate 32 0)).trans List.length_replicate; omega) (by exact iv_flat _ _) (by first | rfl | exact blit_all _ _ (by first | (simp only [iv_length, List.length_set, List.length_replicate, *]; done) | (simp [iv_length, *]; done) | (simp [Value.cells, iv_length, *]; done) | omega | (simp [Value.cells, iv_length] <;> omega)) | (simp [blit, List.drop_append, List.take_append, iv_length, *]; done)) (fun w29 H => ?_)
      dsimp only [List.set] at H
      refine wc_nil rfl ?_
      refine n_sq ?_
      refine wn_ret (by kernel_rfl) ?_
      refine ret1 _ (Or.inr rfl) Try.results32 ⟨_, _, rfl, Ld.entW H 4 (n := 32) rfl (by kernel_rfl) (by first | (simp only [iv_length, List.length_set, List.length_replicate, *]; done) | (simp [iv_length, *]; done) | (simp [Value.cells, iv_length, *]; done) | omega | (simp [Value.cells, iv_length] <;> omega))⟩ ?_
      have he30 : (shaF b) = q := by
        obtain ⟨h1, h2, h3, h4⟩ := hi
        have e : 4 * i.toNat = 32 := by omega
        rw [h4, e, shaF, hN, hs6, hs5]
      exact ⟨by first | (rw [he30]; done) | (rw [he30]; rfl), H.nil, by exact shaF_length b⟩
end Go.Proofs.Ytfeecdcanjkohaa
