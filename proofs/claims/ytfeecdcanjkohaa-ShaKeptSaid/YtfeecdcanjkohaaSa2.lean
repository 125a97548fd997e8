/-
  Walks of some of this seat's functions: each call's answer, and what it leaves of memory. No condition beside those that stand in each theorem.
-/
import Derived.Test.YtfeecdcanjkohaaRows
import Derived.Test.YtfeecdcanjkohaaSa1
import Derived.Test.YtfeecdcanjkohaaOps2
set_option linter.all false
namespace Go.Proofs.Ytfeecdcanjkohaa
open Go.RowKit Go.Px

theorem list8n {l : List Int} (h : l.length = 8) : l = [l.getD 0 0, l.getD 1 0, l.getD 2 0, l.getD 3 0, l.getD 4 0, l.getD 5 0, l.getD 6 0, l.getD 7 0] := by
  obtain ⟨a, b, c, d, e, f, g, i, rfl⟩ := list8 h
  rfl
/-- What a round of the program makes of the eight words. -/
theorem rn_made {s : List Int} (hs : s.length = 8) (t1 t2 : Int) :
    ((s.take 1 ++ ((s.drop 0).take 7 ++ s.drop 8)).set 4 (IntKind.u32.wrap ((s.take 1 ++ ((s.drop 0).take 7 ++ s.drop 8)).getD 4 0 + t1))).set 0 (IntKind.u32.wrap (t1 + t2)) =
    [IntKind.u32.wrap (t1 + t2), s.getD 0 0, s.getD 1 0, s.getD 2 0, IntKind.u32.wrap (s.getD 3 0 + t1), s.getD 4 0, s.getD 5 0, s.getD 6 0] := by
  obtain ⟨a, b, c, d, e, f, g, i, rfl⟩ := list8 hs
  rfl
theorem rnS_length (w : List Int) (t : Nat) (s : List Int) : (rnS w t s).length = 8 := rfl

noncomputable def cd_sha_through : Code := (Try.f55.body).getD .skip
theorem sha_through (w : World) (hv : List Int) (kb : Nat) (b : List Int) (A : Option Addr) (c : Nat) (nb : Nat) (hh : hv.length = 8) (hk : Rd w (some ⟨kb, 0, none⟩) (iv .u32 K256)) (hb : Rd w A (iv .u8 b)) (hbl : b.length = 64) (hnb : nb = 64) :
    Calls Try.prog 55 #[.agg (iv .u32 hv).toArray, .pointer (some ⟨kb, 0, none⟩), .slice A nb c] w (fun e w' => e = .returned (.agg (iv .u32 (cmpF hv b)).toArray) ∧ Hp no w w' [] ∧ (cmpF hv b).length = 8) := by
  have hK := K256_length
  refine enter (args := [_, _, _]) (c := cd_sha_through) (N := 100) Try.func55 (by kernel_rfl) (by kernel_rfl) (by simp) ?_
  have H := Hp.start w
  refine wn_seq (by kernel_rfl) ?_
  refine wn_reg 2 (by kernel_rfl) ?_
  refine wc_new H (some 3) (row (iv .u32 hv) 90) (fun r => .pointer (some ⟨r, 0, none⟩)) (by kernel_rfl) (fun b1 w2 H => ?_)
  refine wc_new H (some 6) (row (iv .u32 (List.replicate 8 0)) 90) (fun r => .pointer (some ⟨r, 0, none⟩)) (by kernel_rfl) (fun b3 w4 H => ?_)
  refine wc_nil rfl ?_
  refine n_sq ?_
  refine wn_seq (by kernel_rfl) ?_
  refine wn_reg 4 (by kernel_rfl) ?_
  refine wc_run (T' := [(1, .pointer (some ⟨kb, 0, none⟩)), (3, .pointer (some ⟨b1, 0, none⟩)), (6, .pointer (some ⟨b3, 0, none⟩)), (15, .slice A nb c)]) (L2 := (rng 1 3)) 1 [1, 3, 6, 15] (by kernel_rfl) ?_
  refine wc_call (some 16) (by kernel_rfl) (sha_spread w4 b A c nb (hb.keep H.keep) hbl hnb) ?_
  rintro _ w5 ⟨rfl, H1, hf6⟩
  refine ⟨_, rfl, fun _ => H1.keep, ?_⟩
  replace H := H.call H1
  simp only [List.nil_append] at H
  refine wc_new H (some 7) (row (iv .u32 (List.replicate 64 0)) 88) (fun r => .pointer (some ⟨r, 0, none⟩)) (by kernel_rfl) (fun b7 w8 H => ?_)
  refine wc_st (b := b7) (off := 0) (Tb := 88) (vs := (iv .u32 (spF b))) (cs' := (iv .u32 (spF b))) H 0 88 (.agg (iv .u32 (spF b)).toArray) 64 (by kernel_rfl) rfl rfl (by exact (iv_length .u32 (spF b)).trans hf6) (by have h := (iv_length .u32 (List.replicate 64 0)).trans List.length_replicate; omega) (by exact iv_flat _ _) (by exact blit_all _ _ ((show (iv .u32 (spF b) : List Value).length = 64 from (iv_length .u32 (spF b)).trans hf6).trans (show (iv .u32 (List.replicate 64 0) : List Value).length = 64 from (iv_length .u32 (List.replicate 64 0)).trans List.length_replicate).symm)) (fun w9 H => ?_)
  dsimp only [List.set] at H
  refine wc_nil rfl ?_
  refine n_sq ?_
  refine wn_seq (by kernel_rfl) ?_
  refine wn_reg 3 (by kernel_rfl) ?_
  refine wc_ld (b := b1) (off := 0) (some 17) 90 (.agg (iv .u32 hv).toArray) (by kernel_rfl) (Ld.entW H 2 (n := 8) rfl (by kernel_rfl) (by exact (iv_length .u32 hv).trans hh)) ?_
  refine wc_new H (some 8) (row (iv .u32 (List.replicate 8 0)) 90) (fun r => .pointer (some ⟨r, 0, none⟩)) (by kernel_rfl) (fun b10 w11 H => ?_)
  refine wc_st (b := b10) (off := 0) (Tb := 90) (vs := (iv .u32 hv)) (cs' := (iv .u32 hv)) H 0 90 (.agg (iv .u32 hv).toArray) 8 (by kernel_rfl) rfl rfl (by exact (iv_length .u32 hv).trans hh) (by have h := (iv_length .u32 (List.replicate 8 0)).trans List.length_replicate; omega) (by exact iv_flat _ _) (by exact blit_all _ _ ((show (iv .u32 hv : List Value).length = 8 from (iv_length .u32 hv).trans hh).trans (show (iv .u32 (List.replicate 8 0) : List Value).length = 8 from (iv_length .u32 (List.replicate 8 0)).trans List.length_replicate).symm)) (fun w12 H => ?_)
  dsimp only [List.set] at H
  refine wc_nil rfl ?_
  refine n_sq ?_
  refine wn_seq (by kernel_rfl) ?_
  refine wn_seq (by kernel_rfl) ?_
  refine wn_reg 1 (by kernel_rfl) ?_
  refine wc_run (T' := [(1, .pointer (some ⟨kb, 0, none⟩)), (3, .pointer (some ⟨b1, 0, none⟩)), (6, .pointer (some ⟨b3, 0, none⟩)), (7, .pointer (some ⟨b7, 0, none⟩)), (8, .pointer (some ⟨b10, 0, none⟩)), (18, .int .i64 0)]) (L2 := (rng 1 0)) 1 [1, 3, 6, 7, 8, 18] (by kernel_rfl) ?_
  refine wc_nil rfl ?_
  refine n_sq ?_
  refine wn_block 0 (by kernel_rfl) ?_
  refine wn_loop (fun ((i, s) : Int × List Int) => [(1, .pointer (some ⟨kb, 0, none⟩)), (3, .pointer (some ⟨b1, 0, none⟩)), (6, .pointer (some ⟨b3, 0, none⟩)), (7, .pointer (some ⟨b7, 0, none⟩)), (8, .pointer (some ⟨b10, 0, none⟩)), (18, .int .i64 i)]) (fun ((i, s) : Int × List Int) w' => Hp no w w' [.bk b10 (row (iv .u32 s) 90), .bk b7 (row (iv .u32 (spF b)) 88), .bk b3 (row (iv .u32 (List.replicate 8 0)) 90), .bk b1 (row (iv .u32 hv) 90)] ∧ 0 ≤ i ∧ i ≤ 64 ∧ s.length = 8 ∧ s = itN (rnS (spF b)) i.toNat hv) (fun ((i, s) : Int × List Int) => (64 - i).toNat) ((0 : Int), hv) [1, 3, 6, 7, 8, 18] (by kernel_rfl) rfl ⟨H, by simp [itN, hh]⟩ ?_
  rintro ⟨i, s⟩ w13 ⟨H, hi⟩
  try dsimp only at H hi
  refine wn_pick (T' := [(1, .pointer (some ⟨kb, 0, none⟩)), (3, .pointer (some ⟨b1, 0, none⟩)), (6, .pointer (some ⟨b3, 0, none⟩)), (7, .pointer (some ⟨b7, 0, none⟩)), (8, .pointer (some ⟨b10, 0, none⟩)), (18, .int .i64 i)]) [1, 3, 6, 7, 8, 18] (by kernel_rfl) ?_
  refine wn_seq (by kernel_rfl) ?_
  refine wn_reg 1 (by kernel_rfl) ?_
  refine wc_run (T' := [(1, .pointer (some ⟨kb, 0, none⟩)), (3, .pointer (some ⟨b1, 0, none⟩)), (6, .pointer (some ⟨b3, 0, none⟩)), (7, .pointer (some ⟨b7, 0, none⟩)), (8, .pointer (some ⟨b10, 0, none⟩)), (18, .int .i64 i), (19, .bool (decide (i < (64 : Int))))]) (L2 := (rng 1 0)) 1 [1, 3, 6, 7, 8, 18, 19] (by kernel_rfl) ?_
  refine wc_nil rfl ?_
  refine n_sq ?_
  refine wn_seq (by kernel_rfl) ?_
  refine wn_cond (.tmp 19) (decide (i < (64 : Int))) (by kernel_rfl) rfl (fun hc14 => ?_) (fun hc14 => ?_)
  · have hc14 := of_decide_eq_true hc14
    refine wn_skip (by kernel_rfl) ?_
    refine n_sq ?_
    refine wn_seq (by kernel_rfl) ?_
    refine wn_block 1 (by kernel_rfl) ?_
    refine wn_seq (by kernel_rfl) ?_
    refine wn_reg 2 (by kernel_rfl) ?_
    refine wc_run (T' := [(1, .pointer (some ⟨kb, 0, none⟩)), (3, .pointer (some ⟨b1, 0, none⟩)), (6, .pointer (some ⟨b3, 0, none⟩)), (7, .pointer (some ⟨b7, 0, none⟩)), (8, .pointer (some ⟨b10, 0, none⟩)), (9, .int .i64 i), (18, .int .i64 i)]) (L2 := (rng 2 0)) 2 [1, 3, 6, 7, 8, 9, 18] (by kernel_rfl) ?_
    refine wc_nil rfl ?_
    refine n_sq ?_
    refine wn_seq (by kernel_rfl) ?_
    refine wn_regD [] (ol [0, 1, 2, 3, 4, 5]) (by kernel_rfl) H (fun w15 H => ?_)
    refine wc_run (T' := [(1, .pointer (some ⟨kb, 0, none⟩)), (3, .pointer (some ⟨b1, 0, none⟩)), (6, .pointer (some ⟨b3, 0, none⟩)), (7, .pointer (some ⟨b7, 0, none⟩)), (8, .pointer (some ⟨b10, 0, none⟩)), (9, .int .i64 i), (18, .int .i64 i), (21, .pointer (some ⟨b10, 0, none⟩))]) (L2 := (ol [1, 2, 3, 4, 5])) 1 [1, 3, 6, 7, 8, 9, 18, 21] (by kernel_rfl) ?_
    refine wc_ld (b := b10) (off := 0) (some 22) 87 (.int .u32 (s.getD 0 0)) (by kernel_rfl) (Ld.ent1 H 0 rfl (by kernel_rfl) (iv_get (by first | (simp only [iv_length, List.length_set, List.length_replicate, *]; done) | (simp [iv_length, *]; done) | (simp [Value.cells, iv_length, *]; done) | omega | (simp [Value.cells, iv_length] <;> omega)))) ?_
    refine wc_run (T' := [(1, .pointer (some ⟨kb, 0, none⟩)), (3, .pointer (some ⟨b1, 0, none⟩)), (6, .pointer (some ⟨b3, 0, none⟩)), (7, .pointer (some ⟨b7, 0, none⟩)), (8, .pointer (some ⟨b10, 0, none⟩)), (9, .int .i64 i), (18, .int .i64 i), (22, .int .u32 (s.getD 0 0)), (23, .pointer (some ⟨b10, 4, none⟩))]) (L2 := (ol [3, 4, 5])) 1 [1, 3, 6, 7, 8, 9, 18, 22, 23] (by kernel_rfl) ?_
    refine wc_ld (b := b10) (off := 4) (some 24) 87 (.int .u32 (s.getD 4 0)) (by kernel_rfl) (Ld.ent1 H 0 rfl (by kernel_rfl) (iv_get (by first | (simp only [iv_length, List.length_set, List.length_replicate, *]; done) | (simp [iv_length, *]; done) | (simp [Value.cells, iv_length, *]; done) | omega | (simp [Value.cells, iv_length] <;> omega)))) ?_
    refine wc_run (T' := [(1, .pointer (some ⟨kb, 0, none⟩)), (3, .pointer (some ⟨b1, 0, none⟩)), (6, .pointer (some ⟨b3, 0, none⟩)), (7, .pointer (some ⟨b7, 0, none⟩)), (8, .pointer (some ⟨b10, 0, none⟩)), (9, .int .i64 i), (10, .int .u32 (s.getD 0 0)), (11, .int .u32 (s.getD 4 0)), (18, .int .i64 i)]) (L2 := (ol [])) 2 [1, 3, 6, 7, 8, 9, 10, 11, 18] (by kernel_rfl) ?_
    refine wc_nil rfl ?_
    refine n_np ?_
    refine n_sq ?_
    refine wn_seq (by kernel_rfl) ?_
    refine wn_regD [] (ol [0, 1, 2, 3, 4, 5, 6]) (by kernel_rfl) H (fun w16 H => ?_)
    refine wc_run (T' := [(1, .pointer (some ⟨kb, 0, none⟩)), (3, .pointer (some ⟨b1, 0, none⟩)), (6, .pointer (some ⟨b3, 0, none⟩)), (7, .pointer (some ⟨b7, 0, none⟩)), (8, .pointer (some ⟨b10, 0, none⟩)), (9, .int .i64 i), (10, .int .u32 (s.getD 0 0)), (11, .int .u32 (s.getD 4 0)), (18, .int .i64 i), (25, .pointer (some ⟨b10, 7, none⟩))]) (L2 := (ol [1, 2, 3, 4, 5, 6])) 1 [1, 3, 6, 7, 8, 9, 10, 11, 18, 25] (by kernel_rfl) ?_
    refine wc_ld (b := b10) (off := 7) (some 26) 87 (.int .u32 (s.getD 7 0)) (by kernel_rfl) (Ld.ent1 H 0 rfl (by kernel_rfl) (iv_get (by first | (simp only [iv_length, List.length_set, List.length_replicate, *]; done) | (simp [iv_length, *]; done) | (simp [Value.cells, iv_length, *]; done) | omega | (simp [Value.cells, iv_length] <;> omega)))) ?_
    refine wc_run (T' := [(1, .pointer (some ⟨kb, 0, none⟩)), (3, .pointer (some ⟨b1, 0, none⟩)), (6, .pointer (some ⟨b3, 0, none⟩)), (7, .pointer (some ⟨b7, 0, none⟩)), (8, .pointer (some ⟨b10, 0, none⟩)), (9, .int .i64 i), (10, .int .u32 (s.getD 0 0)), (11, .int .u32 (s.getD 4 0)), (18, .int .i64 i), (26, .int .u32 (s.getD 7 0)), (27, .int .u32 (s.getD 4 0))]) (L2 := (ol [3, 4, 5, 6])) 1 [1, 3, 6, 7, 8, 9, 10, 11, 18, 26, 27] (by kernel_rfl) ?_
    refine wc_new H (some 28) (row ([.int .i64 6, .int .i64 11, .int .i64 25]) 3) (fun r => .slice (some ⟨r, 0, none⟩) 3 3) (by kernel_rfl) (fun b17 w18 H => ?_)
    refine wc_call (some 29) (by kernel_rfl) (sha_turned w18 (s.getD 4 0) ([6, 11, 25]) (some ⟨b17, 0, none⟩) 3 (Rd.of_ent H (k := 0) (off := 0) (n := 3) rfl (by rfl)) (get_of_mem (p := fun x => 0 ≤ x ∧ x < 32) (by omega) (by decide)) (by decide)) ?_
    rintro _ w19 ⟨rfl, H1⟩
    refine ⟨_, rfl, fun _ => H1.keep, ?_⟩
    replace H := H.call H1
    simp only [List.nil_append] at H
    refine wc_run (T' := [(1, .pointer (some ⟨kb, 0, none⟩)), (3, .pointer (some ⟨b1, 0, none⟩)), (6, .pointer (some ⟨b3, 0, none⟩)), (7, .pointer (some ⟨b7, 0, none⟩)), (8, .pointer (some ⟨b10, 0, none⟩)), (9, .int .i64 i), (10, .int .u32 (s.getD 0 0)), (11, .int .u32 (s.getD 4 0)), (12, .int .u32 (IntKind.u32.wrap ((s.getD 7 0) + (turnS (s.getD 4 0) ([6, 11, 25]))))), (18, .int .i64 i)]) (L2 := (ol [])) 2 [1, 3, 6, 7, 8, 9, 10, 11, 12, 18] (by kernel_rfl) ?_
    refine wc_nil rfl ?_
    refine n_np ?_
    refine n_sq ?_
    refine wn_seq (by kernel_rfl) ?_
    refine wn_reg 13 (by kernel_rfl) ?_
    refine wc_run (T' := [(1, .pointer (some ⟨kb, 0, none⟩)), (3, .pointer (some ⟨b1, 0, none⟩)), (6, .pointer (some ⟨b3, 0, none⟩)), (7, .pointer (some ⟨b7, 0, none⟩)), (8, .pointer (some ⟨b10, 0, none⟩)), (9, .int .i64 i), (10, .int .u32 (s.getD 0 0)), (11, .int .u32 (s.getD 4 0)), (18, .int .i64 i), (31, .int .u32 (IntKind.u32.wrap ((s.getD 7 0) + (turnS (s.getD 4 0) ([6, 11, 25]))))), (32, .int .u32 (s.getD 4 0)), (33, .pointer (some ⟨b10, 5, none⟩))]) (L2 := (rng 3 10)) 3 [1, 3, 6, 7, 8, 9, 10, 11, 18, 31, 32, 33] (by kernel_rfl) ?_
    refine wc_ld (b := b10) (off := 5) (some 34) 87 (.int .u32 (s.getD 5 0)) (by kernel_rfl) (Ld.ent1 H 1 rfl (by kernel_rfl) (iv_get (by first | (simp only [iv_length, List.length_set, List.length_replicate, *]; done) | (simp [iv_length, *]; done) | (simp [Value.cells, iv_length, *]; done) | omega | (simp [Value.cells, iv_length] <;> omega)))) ?_
    refine wc_run (T' := [(1, .pointer (some ⟨kb, 0, none⟩)), (3, .pointer (some ⟨b1, 0, none⟩)), (6, .pointer (some ⟨b3, 0, none⟩)), (7, .pointer (some ⟨b7, 0, none⟩)), (8, .pointer (some ⟨b10, 0, none⟩)), (9, .int .i64 i), (10, .int .u32 (s.getD 0 0)), (18, .int .i64 i), (31, .int .u32 (IntKind.u32.wrap ((s.getD 7 0) + (turnS (s.getD 4 0) ([6, 11, 25]))))), (35, .int .u32 (bnd .u32 (s.getD 4 0) (s.getD 5 0))), (37, .int .u32 (bxr .u32 4294967295 (s.getD 4 0))), (38, .pointer (some ⟨b10, 6, none⟩))]) (L2 := (rng 8 5)) 4 [1, 3, 6, 7, 8, 9, 10, 18, 31, 35, 37, 38] (by kernel_rfl) ?_
    refine wc_ld (b := b10) (off := 6) (some 39) 87 (.int .u32 (s.getD 6 0)) (by kernel_rfl) (Ld.ent1 H 1 rfl (by kernel_rfl) (iv_get (by first | (simp only [iv_length, List.length_set, List.length_replicate, *]; done) | (simp [iv_length, *]; done) | (simp [Value.cells, iv_length, *]; done) | omega | (simp [Value.cells, iv_length] <;> omega)))) ?_
    refine wc_run (T' := [(1, .pointer (some ⟨kb, 0, none⟩)), (3, .pointer (some ⟨b1, 0, none⟩)), (6, .pointer (some ⟨b3, 0, none⟩)), (7, .pointer (some ⟨b7, 0, none⟩)), (8, .pointer (some ⟨b10, 0, none⟩)), (9, .int .i64 i), (10, .int .u32 (s.getD 0 0)), (12, .int .u32 (IntKind.u32.wrap ((IntKind.u32.wrap ((s.getD 7 0) + (turnS (s.getD 4 0) ([6, 11, 25])))) + (bxr .u32 (bnd .u32 (s.getD 4 0) (s.getD 5 0)) (bnd .u32 (bxr .u32 4294967295 (s.getD 4 0)) (s.getD 6 0)))))), (18, .int .i64 i)]) (L2 := (rng 13 0)) 4 [1, 3, 6, 7, 8, 9, 10, 12, 18] (by kernel_rfl) ?_
    refine wc_nil rfl ?_
    refine n_sq ?_
    refine wn_seq (by kernel_rfl) ?_
    refine wn_regD [] (ol [0, 1, 2, 3, 4, 5, 6, 7, 8, 9, 10, 11]) (by kernel_rfl) H (fun w20 H => ?_)
    refine wc_run (T' := [(1, .pointer (some ⟨kb, 0, none⟩)), (3, .pointer (some ⟨b1, 0, none⟩)), (6, .pointer (some ⟨b3, 0, none⟩)), (7, .pointer (some ⟨b7, 0, none⟩)), (8, .pointer (some ⟨b10, 0, none⟩)), (9, .int .i64 i), (10, .int .u32 (s.getD 0 0)), (18, .int .i64 i), (43, .int .u32 (IntKind.u32.wrap ((IntKind.u32.wrap ((s.getD 7 0) + (turnS (s.getD 4 0) ([6, 11, 25])))) + (bxr .u32 (bnd .u32 (s.getD 4 0) (s.getD 5 0)) (bnd .u32 (bxr .u32 4294967295 (s.getD 4 0)) (s.getD 6 0)))))), (45, .int .i64 i), (46, .pointer (some ⟨kb, 0, none⟩))]) (L2 := (ol [4, 5, 6, 7, 8, 9, 10, 11])) 4 [1, 3, 6, 7, 8, 9, 10, 18, 43, 45, 46] (by kernel_rfl) ?_
    refine wc_ix (b := kb) (off := 0) (o' := i.toNat) (some 47) (some ⟨kb, 0, none⟩) 64 1 i (by kernel_rfl) rfl (by omega) (by omega) (by omega) ?_
    refine wc_ldP0 (b := kb) (cs := (iv .u32 K256)) (hk.keep H.keep) (some 48) 87 i.toNat (.int .u32 (K256.getD i.toNat 0)) (by kernel_rfl) (Or.inl ⟨by kernel_rfl, iv_get (by first | omega | (simp only [List.length_append, List.length_cons, List.length_nil, List.length_set, List.length_replicate, List.length_drop, List.length_take, iv_length, Nat.zero_add] at * <;> omega))⟩) ?_
    refine wc_run (T' := [(1, .pointer (some ⟨kb, 0, none⟩)), (3, .pointer (some ⟨b1, 0, none⟩)), (6, .pointer (some ⟨b3, 0, none⟩)), (7, .pointer (some ⟨b7, 0, none⟩)), (8, .pointer (some ⟨b10, 0, none⟩)), (10, .int .u32 (s.getD 0 0)), (18, .int .i64 i), (43, .int .u32 (IntKind.u32.wrap ((IntKind.u32.wrap ((s.getD 7 0) + (turnS (s.getD 4 0) ([6, 11, 25])))) + (bxr .u32 (bnd .u32 (s.getD 4 0) (s.getD 5 0)) (bnd .u32 (bxr .u32 4294967295 (s.getD 4 0)) (s.getD 6 0)))))), (48, .int .u32 (K256.getD i.toNat 0)), (49, .int .i64 i)]) (L2 := (ol [7, 8, 9, 10, 11])) 1 [1, 3, 6, 7, 8, 10, 18, 43, 48, 49] (by kernel_rfl) ?_
    refine wc_ix (b := b7) (off := 0) (o' := i.toNat) (some 50) (some ⟨b7, 0, none⟩) 64 1 i (by kernel_rfl) rfl (by omega) (by omega) (by omega) ?_
    refine wc_ld (b := b7) (off := i.toNat) (some 51) 87 (.int .u32 ((spF b).getD i.toNat 0)) (by kernel_rfl) (Ld.ent1 H 2 rfl (by kernel_rfl) (iv_get (by have h : (spF b).length = _ := hf6; omega))) ?_
    refine wc_run (T' := [(1, .pointer (some ⟨kb, 0, none⟩)), (3, .pointer (some ⟨b1, 0, none⟩)), (6, .pointer (some ⟨b3, 0, none⟩)), (7, .pointer (some ⟨b7, 0, none⟩)), (8, .pointer (some ⟨b10, 0, none⟩)), (10, .int .u32 (s.getD 0 0)), (12, .int .u32 (IntKind.u32.wrap ((IntKind.u32.wrap ((IntKind.u32.wrap ((s.getD 7 0) + (turnS (s.getD 4 0) ([6, 11, 25])))) + (bxr .u32 (bnd .u32 (s.getD 4 0) (s.getD 5 0)) (bnd .u32 (bxr .u32 4294967295 (s.getD 4 0)) (s.getD 6 0))))) + (IntKind.u32.wrap ((K256.getD i.toNat 0) + ((spF b).getD i.toNat 0)))))), (18, .int .i64 i)]) (L2 := (ol [])) 3 [1, 3, 6, 7, 8, 10, 12, 18] (by kernel_rfl) ?_
    refine wc_nil rfl ?_
    refine n_np ?_
    refine n_sq ?_
    refine wn_seq (by kernel_rfl) ?_
    refine wn_reg 4 (by kernel_rfl) ?_
    refine wc_run (T' := [(1, .pointer (some ⟨kb, 0, none⟩)), (3, .pointer (some ⟨b1, 0, none⟩)), (6, .pointer (some ⟨b3, 0, none⟩)), (7, .pointer (some ⟨b7, 0, none⟩)), (8, .pointer (some ⟨b10, 0, none⟩)), (10, .int .u32 (s.getD 0 0)), (12, .int .u32 (IntKind.u32.wrap ((IntKind.u32.wrap ((IntKind.u32.wrap ((s.getD 7 0) + (turnS (s.getD 4 0) ([6, 11, 25])))) + (bxr .u32 (bnd .u32 (s.getD 4 0) (s.getD 5 0)) (bnd .u32 (bxr .u32 4294967295 (s.getD 4 0)) (s.getD 6 0))))) + (IntKind.u32.wrap ((K256.getD i.toNat 0) + ((spF b).getD i.toNat 0)))))), (18, .int .i64 i), (54, .int .u32 (s.getD 0 0))]) (L2 := (rng 1 3)) 1 [1, 3, 6, 7, 8, 10, 12, 18, 54] (by kernel_rfl) ?_
    refine wc_new H (some 55) (row ([.int .i64 2, .int .i64 13, .int .i64 22]) 3) (fun r => .slice (some ⟨r, 0, none⟩) 3 3) (by kernel_rfl) (fun b21 w22 H => ?_)
    refine wc_call (some 56) (by kernel_rfl) (sha_turned w22 (s.getD 0 0) ([2, 13, 22]) (some ⟨b21, 0, none⟩) 3 (Rd.of_ent H (k := 0) (off := 0) (n := 3) rfl (by rfl)) (get_of_mem (p := fun x => 0 ≤ x ∧ x < 32) (by omega) (by decide)) (by decide)) ?_
    rintro _ w23 ⟨rfl, H1⟩
    refine ⟨_, rfl, fun _ => H1.keep, ?_⟩
    replace H := H.call H1
    simp only [List.nil_append] at H
    refine wc_run (T' := [(1, .pointer (some ⟨kb, 0, none⟩)), (3, .pointer (some ⟨b1, 0, none⟩)), (6, .pointer (some ⟨b3, 0, none⟩)), (7, .pointer (some ⟨b7, 0, none⟩)), (8, .pointer (some ⟨b10, 0, none⟩)), (10, .int .u32 (s.getD 0 0)), (12, .int .u32 (IntKind.u32.wrap ((IntKind.u32.wrap ((IntKind.u32.wrap ((s.getD 7 0) + (turnS (s.getD 4 0) ([6, 11, 25])))) + (bxr .u32 (bnd .u32 (s.getD 4 0) (s.getD 5 0)) (bnd .u32 (bxr .u32 4294967295 (s.getD 4 0)) (s.getD 6 0))))) + (IntKind.u32.wrap ((K256.getD i.toNat 0) + ((spF b).getD i.toNat 0)))))), (13, .int .u32 (turnS (s.getD 0 0) ([2, 13, 22]))), (18, .int .i64 i)]) (L2 := (rng 4 0)) 1 [1, 3, 6, 7, 8, 10, 12, 13, 18] (by kernel_rfl) ?_
    refine wc_nil rfl ?_
    refine n_sq ?_
    refine wn_seq (by kernel_rfl) ?_
    refine wn_reg 18 (by kernel_rfl) ?_
    refine wc_run (T' := [(1, .pointer (some ⟨kb, 0, none⟩)), (3, .pointer (some ⟨b1, 0, none⟩)), (6, .pointer (some ⟨b3, 0, none⟩)), (7, .pointer (some ⟨b7, 0, none⟩)), (8, .pointer (some ⟨b10, 0, none⟩)), (10, .int .u32 (s.getD 0 0)), (12, .int .u32 (IntKind.u32.wrap ((IntKind.u32.wrap ((IntKind.u32.wrap ((s.getD 7 0) + (turnS (s.getD 4 0) ([6, 11, 25])))) + (bxr .u32 (bnd .u32 (s.getD 4 0) (s.getD 5 0)) (bnd .u32 (bxr .u32 4294967295 (s.getD 4 0)) (s.getD 6 0))))) + (IntKind.u32.wrap ((K256.getD i.toNat 0) + ((spF b).getD i.toNat 0)))))), (18, .int .i64 i), (57, .int .u32 (turnS (s.getD 0 0) ([2, 13, 22]))), (58, .int .u32 (s.getD 0 0)), (59, .pointer (some ⟨b10, 1, none⟩))]) (L2 := (rng 3 15)) 3 [1, 3, 6, 7, 8, 10, 12, 18, 57, 58, 59] (by kernel_rfl) ?_
    refine wc_ld (b := b10) (off := 1) (some 60) 87 (.int .u32 (s.getD 1 0)) (by kernel_rfl) (Ld.ent1 H 2 rfl (by kernel_rfl) (iv_get (by first | (simp only [iv_length, List.length_set, List.length_replicate, *]; done) | (simp [iv_length, *]; done) | (simp [Value.cells, iv_length, *]; done) | omega | (simp [Value.cells, iv_length] <;> omega)))) ?_
    refine wc_run (T' := [(1, .pointer (some ⟨kb, 0, none⟩)), (3, .pointer (some ⟨b1, 0, none⟩)), (6, .pointer (some ⟨b3, 0, none⟩)), (7, .pointer (some ⟨b7, 0, none⟩)), (8, .pointer (some ⟨b10, 0, none⟩)), (12, .int .u32 (IntKind.u32.wrap ((IntKind.u32.wrap ((IntKind.u32.wrap ((s.getD 7 0) + (turnS (s.getD 4 0) ([6, 11, 25])))) + (bxr .u32 (bnd .u32 (s.getD 4 0) (s.getD 5 0)) (bnd .u32 (bxr .u32 4294967295 (s.getD 4 0)) (s.getD 6 0))))) + (IntKind.u32.wrap ((K256.getD i.toNat 0) + ((spF b).getD i.toNat 0)))))), (18, .int .i64 i), (57, .int .u32 (turnS (s.getD 0 0) ([2, 13, 22]))), (61, .int .u32 (bnd .u32 (s.getD 0 0) (s.getD 1 0))), (62, .int .u32 (s.getD 0 0)), (63, .pointer (some ⟨b10, 2, none⟩))]) (L2 := (rng 7 11)) 3 [1, 3, 6, 7, 8, 12, 18, 57, 61, 62, 63] (by kernel_rfl) ?_
    refine wc_ld (b := b10) (off := 2) (some 64) 87 (.int .u32 (s.getD 2 0)) (by kernel_rfl) (Ld.ent1 H 2 rfl (by kernel_rfl) (iv_get (by first | (simp only [iv_length, List.length_set, List.length_replicate, *]; done) | (simp [iv_length, *]; done) | (simp [Value.cells, iv_length, *]; done) | omega | (simp [Value.cells, iv_length] <;> omega)))) ?_
    refine wc_run (T' := [(1, .pointer (some ⟨kb, 0, none⟩)), (3, .pointer (some ⟨b1, 0, none⟩)), (6, .pointer (some ⟨b3, 0, none⟩)), (7, .pointer (some ⟨b7, 0, none⟩)), (8, .pointer (some ⟨b10, 0, none⟩)), (12, .int .u32 (IntKind.u32.wrap ((IntKind.u32.wrap ((IntKind.u32.wrap ((s.getD 7 0) + (turnS (s.getD 4 0) ([6, 11, 25])))) + (bxr .u32 (bnd .u32 (s.getD 4 0) (s.getD 5 0)) (bnd .u32 (bxr .u32 4294967295 (s.getD 4 0)) (s.getD 6 0))))) + (IntKind.u32.wrap ((K256.getD i.toNat 0) + ((spF b).getD i.toNat 0)))))), (18, .int .i64 i), (57, .int .u32 (turnS (s.getD 0 0) ([2, 13, 22]))), (66, .int .u32 (bxr .u32 (bnd .u32 (s.getD 0 0) (s.getD 1 0)) (bnd .u32 (s.getD 0 0) (s.getD 2 0)))), (67, .pointer (some ⟨b10, 1, none⟩))]) (L2 := (rng 11 7)) 3 [1, 3, 6, 7, 8, 12, 18, 57, 66, 67] (by kernel_rfl) ?_
    refine wc_ld (b := b10) (off := 1) (some 68) 87 (.int .u32 (s.getD 1 0)) (by kernel_rfl) (Ld.ent1 H 2 rfl (by kernel_rfl) (iv_get (by first | (simp only [iv_length, List.length_set, List.length_replicate, *]; done) | (simp [iv_length, *]; done) | (simp [Value.cells, iv_length, *]; done) | omega | (simp [Value.cells, iv_length] <;> omega)))) ?_
    refine wc_run (T' := [(1, .pointer (some ⟨kb, 0, none⟩)), (3, .pointer (some ⟨b1, 0, none⟩)), (6, .pointer (some ⟨b3, 0, none⟩)), (7, .pointer (some ⟨b7, 0, none⟩)), (8, .pointer (some ⟨b10, 0, none⟩)), (12, .int .u32 (IntKind.u32.wrap ((IntKind.u32.wrap ((IntKind.u32.wrap ((s.getD 7 0) + (turnS (s.getD 4 0) ([6, 11, 25])))) + (bxr .u32 (bnd .u32 (s.getD 4 0) (s.getD 5 0)) (bnd .u32 (bxr .u32 4294967295 (s.getD 4 0)) (s.getD 6 0))))) + (IntKind.u32.wrap ((K256.getD i.toNat 0) + ((spF b).getD i.toNat 0)))))), (18, .int .i64 i), (57, .int .u32 (turnS (s.getD 0 0) ([2, 13, 22]))), (66, .int .u32 (bxr .u32 (bnd .u32 (s.getD 0 0) (s.getD 1 0)) (bnd .u32 (s.getD 0 0) (s.getD 2 0)))), (68, .int .u32 (s.getD 1 0)), (69, .pointer (some ⟨b10, 2, none⟩))]) (L2 := (rng 13 5)) 1 [1, 3, 6, 7, 8, 12, 18, 57, 66, 68, 69] (by kernel_rfl) ?_
    refine wc_ld (b := b10) (off := 2) (some 70) 87 (.int .u32 (s.getD 2 0)) (by kernel_rfl) (Ld.ent1 H 2 rfl (by kernel_rfl) (iv_get (by first | (simp only [iv_length, List.length_set, List.length_replicate, *]; done) | (simp [iv_length, *]; done) | (simp [Value.cells, iv_length, *]; done) | omega | (simp [Value.cells, iv_length] <;> omega)))) ?_
    refine wc_run (T' := [(1, .pointer (some ⟨kb, 0, none⟩)), (3, .pointer (some ⟨b1, 0, none⟩)), (6, .pointer (some ⟨b3, 0, none⟩)), (7, .pointer (some ⟨b7, 0, none⟩)), (8, .pointer (some ⟨b10, 0, none⟩)), (12, .int .u32 (IntKind.u32.wrap ((IntKind.u32.wrap ((IntKind.u32.wrap ((s.getD 7 0) + (turnS (s.getD 4 0) ([6, 11, 25])))) + (bxr .u32 (bnd .u32 (s.getD 4 0) (s.getD 5 0)) (bnd .u32 (bxr .u32 4294967295 (s.getD 4 0)) (s.getD 6 0))))) + (IntKind.u32.wrap ((K256.getD i.toNat 0) + ((spF b).getD i.toNat 0)))))), (13, .int .u32 (IntKind.u32.wrap ((turnS (s.getD 0 0) ([2, 13, 22])) + (bxr .u32 (bxr .u32 (bnd .u32 (s.getD 0 0) (s.getD 1 0)) (bnd .u32 (s.getD 0 0) (s.getD 2 0))) (bnd .u32 (s.getD 1 0) (s.getD 2 0)))))), (18, .int .i64 i)]) (L2 := (rng 18 0)) 4 [1, 3, 6, 7, 8, 12, 13, 18] (by kernel_rfl) ?_
    refine wc_nil rfl ?_
    refine n_sq ?_
    refine wn_seq (by kernel_rfl) ?_
    refine wn_regD [] (ol [0, 1, 2]) (by kernel_rfl) H (fun w24 H => ?_)
    refine wc_sl (some 74) (some ⟨b10, 0, none⟩) 8 8 1 (some 1) none none (some ⟨b10, 1, none⟩) 7 7 (by kernel_rfl) (by kernel_rfl) (by simp) (by decide) (by decide) (by decide) (by decide) (by decide) (by decide) (by exact slA_some (by decide) (by first | rfl | omega)) ?_
    refine wc_sl (some 75) (some ⟨b10, 0, none⟩) 8 8 1 none (some 7) none (some ⟨b10, 0, none⟩) 7 8 (by kernel_rfl) (by kernel_rfl) (by simp) (by decide) (by decide) (by decide) (by decide) (by decide) (by decide) (by exact slA_zero _ _ _) ?_
    refine wc_cp H 2 (some 76) (B := (some ⟨b10, 0, none⟩)) (b := b10) (off := 1) (n := 7) (c := 7) (mm := 7) (cc := 8) (t := 101) (e := 87) 1 4 (cs := (iv .u32 s)) (cs' := (iv .u32 (s.take 1 ++ (((s.drop 0).take 7) ++ s.drop 8)))) (ys := (iv .u32 ((s.drop 0).take 7))) 7 (by kernel_rfl) rfl (Rd.of_ent H (k := 2) (off := 0) (n := 7) rfl (by simp only [iv, ← List.map_drop, ← List.map_take])) (by first | (simp only [iv_length, List.length_set, List.length_replicate, *]; done) | (simp [iv_length, *]; done) | (simp [Value.cells, iv_length, *]; done) | omega | (simp [Value.cells, iv_length] <;> omega)) (by exact iv_flat _ _) (by decide) (by rw [iv_length]; have h : s.length = 8 := (by first | (simp only [iv_length, List.length_set, List.length_replicate, *]; done) | (simp [iv_length, *]; done) | (simp [Value.cells, iv_length, *]; done) | omega | (simp [Value.cells, iv_length] <;> omega)); omega) (by exact cp_eqF (q := s) ((by first | (simp only [iv_length, List.length_set, List.length_replicate, *]; done) | (simp [iv_length, *]; done) | (simp [Value.cells, iv_length, *]; done) | omega | (simp [Value.cells, iv_length] <;> omega)))) (fun w25 H => ?_)
    dsimp only [List.set] at H
    refine wc_nil rfl ?_
    refine n_np ?_
    refine n_sq ?_
    refine wn_seq (by kernel_rfl) ?_
    refine wn_reg 6 (by kernel_rfl) ?_
    refine wc_run (T' := [(1, .pointer (some ⟨kb, 0, none⟩)), (3, .pointer (some ⟨b1, 0, none⟩)), (6, .pointer (some ⟨b3, 0, none⟩)), (7, .pointer (some ⟨b7, 0, none⟩)), (8, .pointer (some ⟨b10, 0, none⟩)), (12, .int .u32 (IntKind.u32.wrap ((IntKind.u32.wrap ((IntKind.u32.wrap ((s.getD 7 0) + (turnS (s.getD 4 0) ([6, 11, 25])))) + (bxr .u32 (bnd .u32 (s.getD 4 0) (s.getD 5 0)) (bnd .u32 (bxr .u32 4294967295 (s.getD 4 0)) (s.getD 6 0))))) + (IntKind.u32.wrap ((K256.getD i.toNat 0) + ((spF b).getD i.toNat 0)))))), (13, .int .u32 (IntKind.u32.wrap ((turnS (s.getD 0 0) ([2, 13, 22])) + (bxr .u32 (bxr .u32 (bnd .u32 (s.getD 0 0) (s.getD 1 0)) (bnd .u32 (s.getD 0 0) (s.getD 2 0))) (bnd .u32 (s.getD 1 0) (s.getD 2 0)))))), (18, .int .i64 i), (77, .pointer (some ⟨b10, 4, none⟩))]) (L2 := (rng 1 5)) 1 [1, 3, 6, 7, 8, 12, 13, 18, 77] (by kernel_rfl) ?_
    refine wc_ld (b := b10) (off := 4) (some 78) 87 (.int .u32 ((s.take 1 ++ (((s.drop 0).take 7) ++ s.drop 8)).getD 4 0)) (by kernel_rfl) (Ld.ent1 H 2 rfl (by kernel_rfl) (iv_get (by have h : (s.take 1 ++ (((s.drop 0).take 7) ++ s.drop 8)).length = _ := (show (s.take 1 ++ (((s.drop 0).take 7) ++ s.drop 8)).length = 8 by simp only [List.length_append, List.length_cons, List.length_nil, List.length_take, List.length_drop]; have h1 : ((s.drop 0).take 7).length = 7 := (by first | (simp only [iv_length, List.length_set, List.length_replicate, *]; done) | (simp [iv_length, *]; done) | (simp [Value.cells, iv_length, *]; done) | omega | (simp [Value.cells, iv_length] <;> omega)); have h2 : s.length = 8 := (by first | (simp only [iv_length, List.length_set, List.length_replicate, *]; done) | (simp [iv_length, *]; done) | (simp [Value.cells, iv_length, *]; done) | omega | (simp [Value.cells, iv_length] <;> omega)); omega); omega))) ?_
    refine wc_run (T' := [(1, .pointer (some ⟨kb, 0, none⟩)), (3, .pointer (some ⟨b1, 0, none⟩)), (6, .pointer (some ⟨b3, 0, none⟩)), (7, .pointer (some ⟨b7, 0, none⟩)), (8, .pointer (some ⟨b10, 0, none⟩)), (12, .int .u32 (IntKind.u32.wrap ((IntKind.u32.wrap ((IntKind.u32.wrap ((s.getD 7 0) + (turnS (s.getD 4 0) ([6, 11, 25])))) + (bxr .u32 (bnd .u32 (s.getD 4 0) (s.getD 5 0)) (bnd .u32 (bxr .u32 4294967295 (s.getD 4 0)) (s.getD 6 0))))) + (IntKind.u32.wrap ((K256.getD i.toNat 0) + ((spF b).getD i.toNat 0)))))), (13, .int .u32 (IntKind.u32.wrap ((turnS (s.getD 0 0) ([2, 13, 22])) + (bxr .u32 (bxr .u32 (bnd .u32 (s.getD 0 0) (s.getD 1 0)) (bnd .u32 (s.getD 0 0) (s.getD 2 0))) (bnd .u32 (s.getD 1 0) (s.getD 2 0)))))), (18, .int .i64 i), (80, .int .u32 (IntKind.u32.wrap (((s.take 1 ++ (((s.drop 0).take 7) ++ s.drop 8)).getD 4 0) + (IntKind.u32.wrap ((IntKind.u32.wrap ((IntKind.u32.wrap ((s.getD 7 0) + (turnS (s.getD 4 0) ([6, 11, 25])))) + (bxr .u32 (bnd .u32 (s.getD 4 0) (s.getD 5 0)) (bnd .u32 (bxr .u32 4294967295 (s.getD 4 0)) (s.getD 6 0))))) + (IntKind.u32.wrap ((K256.getD i.toNat 0) + ((spF b).getD i.toNat 0)))))))), (81, .pointer (some ⟨b10, 4, none⟩))]) (L2 := (rng 5 1)) 3 [1, 3, 6, 7, 8, 12, 13, 18, 80, 81] (by kernel_rfl) ?_
    refine wc_st (b := b10) (off := 4) (Tb := 90) (vs := ([.int .u32 (IntKind.u32.wrap (((s.take 1 ++ (((s.drop 0).take 7) ++ s.drop 8)).getD 4 0) + (IntKind.u32.wrap ((IntKind.u32.wrap ((IntKind.u32.wrap ((s.getD 7 0) + (turnS (s.getD 4 0) ([6, 11, 25])))) + (bxr .u32 (bnd .u32 (s.getD 4 0) (s.getD 5 0)) (bnd .u32 (bxr .u32 4294967295 (s.getD 4 0)) (s.getD 6 0))))) + (IntKind.u32.wrap ((K256.getD i.toNat 0) + ((spF b).getD i.toNat 0)))))))])) (cs' := (iv .u32 ((s.take 1 ++ (((s.drop 0).take 7) ++ s.drop 8)).set 4 (IntKind.u32.wrap (((s.take 1 ++ (((s.drop 0).take 7) ++ s.drop 8)).getD 4 0) + (IntKind.u32.wrap ((IntKind.u32.wrap ((IntKind.u32.wrap ((s.getD 7 0) + (turnS (s.getD 4 0) ([6, 11, 25])))) + (bxr .u32 (bnd .u32 (s.getD 4 0) (s.getD 5 0)) (bnd .u32 (bxr .u32 4294967295 (s.getD 4 0)) (s.getD 6 0))))) + (IntKind.u32.wrap ((K256.getD i.toNat 0) + ((spF b).getD i.toNat 0)))))))))) H 2 87 (.int .u32 (IntKind.u32.wrap (((s.take 1 ++ (((s.drop 0).take 7) ++ s.drop 8)).getD 4 0) + (IntKind.u32.wrap ((IntKind.u32.wrap ((IntKind.u32.wrap ((s.getD 7 0) + (turnS (s.getD 4 0) ([6, 11, 25])))) + (bxr .u32 (bnd .u32 (s.getD 4 0) (s.getD 5 0)) (bnd .u32 (bxr .u32 4294967295 (s.getD 4 0)) (s.getD 6 0))))) + (IntKind.u32.wrap ((K256.getD i.toNat 0) + ((spF b).getD i.toNat 0)))))))) 1 (by kernel_rfl) rfl rfl (by rfl) (by have h := (iv_length .u32 (s.take 1 ++ (((s.drop 0).take 7) ++ s.drop 8))).trans (show (s.take 1 ++ (((s.drop 0).take 7) ++ s.drop 8)).length = 8 by simp only [List.length_append, List.length_cons, List.length_nil, List.length_take, List.length_drop]; have h1 : ((s.drop 0).take 7).length = 7 := (by first | (simp only [iv_length, List.length_set, List.length_replicate, *]; done) | (simp [iv_length, *]; done) | (simp [Value.cells, iv_length, *]; done) | omega | (simp [Value.cells, iv_length] <;> omega)); have h2 : s.length = 8 := (by first | (simp only [iv_length, List.length_set, List.length_replicate, *]; done) | (simp [iv_length, *]; done) | (simp [Value.cells, iv_length, *]; done) | omega | (simp [Value.cells, iv_length] <;> omega)); omega); omega) (by simp [Value.oneCell']) (by exact iv_set _ _ _ _ (by have h : (s.take 1 ++ (((s.drop 0).take 7) ++ s.drop 8)).length = _ := (show (s.take 1 ++ (((s.drop 0).take 7) ++ s.drop 8)).length = 8 by simp only [List.length_append, List.length_cons, List.length_nil, List.length_take, List.length_drop]; have h1 : ((s.drop 0).take 7).length = 7 := (by first | (simp only [iv_length, List.length_set, List.length_replicate, *]; done) | (simp [iv_length, *]; done) | (simp [Value.cells, iv_length, *]; done) | omega | (simp [Value.cells, iv_length] <;> omega)); have h2 : s.length = 8 := (by first | (simp only [iv_length, List.length_set, List.length_replicate, *]; done) | (simp [iv_length, *]; done) | (simp [Value.cells, iv_length, *]; done) | omega | (simp [Value.cells, iv_length] <;> omega)); omega); omega)) (fun w26 H => ?_)
    dsimp only [List.set] at H
    refine wc_nil rfl ?_
    refine n_sq ?_
    refine wn_reg 5 (by kernel_rfl) ?_
    refine wc_run (T' := [(1, .pointer (some ⟨kb, 0, none⟩)), (3, .pointer (some ⟨b1, 0, none⟩)), (6, .pointer (some ⟨b3, 0, none⟩)), (7, .pointer (some ⟨b7, 0, none⟩)), (8, .pointer (some ⟨b10, 0, none⟩)), (18, .int .i64 i), (84, .int .u32 (IntKind.u32.wrap ((IntKind.u32.wrap ((IntKind.u32.wrap ((IntKind.u32.wrap ((s.getD 7 0) + (turnS (s.getD 4 0) ([6, 11, 25])))) + (bxr .u32 (bnd .u32 (s.getD 4 0) (s.getD 5 0)) (bnd .u32 (bxr .u32 4294967295 (s.getD 4 0)) (s.getD 6 0))))) + (IntKind.u32.wrap ((K256.getD i.toNat 0) + ((spF b).getD i.toNat 0))))) + (IntKind.u32.wrap ((turnS (s.getD 0 0) ([2, 13, 22])) + (bxr .u32 (bxr .u32 (bnd .u32 (s.getD 0 0) (s.getD 1 0)) (bnd .u32 (s.getD 0 0) (s.getD 2 0))) (bnd .u32 (s.getD 1 0) (s.getD 2 0)))))))), (85, .pointer (some ⟨b10, 0, none⟩))]) (L2 := (rng 4 1)) 4 [1, 3, 6, 7, 8, 18, 84, 85] (by kernel_rfl) ?_
    refine wc_st (b := b10) (off := 0) (Tb := 90) (vs := ([.int .u32 (IntKind.u32.wrap ((IntKind.u32.wrap ((IntKind.u32.wrap ((IntKind.u32.wrap ((s.getD 7 0) + (turnS (s.getD 4 0) ([6, 11, 25])))) + (bxr .u32 (bnd .u32 (s.getD 4 0) (s.getD 5 0)) (bnd .u32 (bxr .u32 4294967295 (s.getD 4 0)) (s.getD 6 0))))) + (IntKind.u32.wrap ((K256.getD i.toNat 0) + ((spF b).getD i.toNat 0))))) + (IntKind.u32.wrap ((turnS (s.getD 0 0) ([2, 13, 22])) + (bxr .u32 (bxr .u32 (bnd .u32 (s.getD 0 0) (s.getD 1 0)) (bnd .u32 (s.getD 0 0) (s.getD 2 0))) (bnd .u32 (s.getD 1 0) (s.getD 2 0)))))))])) (cs' := (iv .u32 (((s.take 1 ++ (((s.drop 0).take 7) ++ s.drop 8)).set 4 (IntKind.u32.wrap (((s.take 1 ++ (((s.drop 0).take 7) ++ s.drop 8)).getD 4 0) + (IntKind.u32.wrap ((IntKind.u32.wrap ((IntKind.u32.wrap ((s.getD 7 0) + (turnS (s.getD 4 0) ([6, 11, 25])))) + (bxr .u32 (bnd .u32 (s.getD 4 0) (s.getD 5 0)) (bnd .u32 (bxr .u32 4294967295 (s.getD 4 0)) (s.getD 6 0))))) + (IntKind.u32.wrap ((K256.getD i.toNat 0) + ((spF b).getD i.toNat 0)))))))).set 0 (IntKind.u32.wrap ((IntKind.u32.wrap ((IntKind.u32.wrap ((IntKind.u32.wrap ((s.getD 7 0) + (turnS (s.getD 4 0) ([6, 11, 25])))) + (bxr .u32 (bnd .u32 (s.getD 4 0) (s.getD 5 0)) (bnd .u32 (bxr .u32 4294967295 (s.getD 4 0)) (s.getD 6 0))))) + (IntKind.u32.wrap ((K256.getD i.toNat 0) + ((spF b).getD i.toNat 0))))) + (IntKind.u32.wrap ((turnS (s.getD 0 0) ([2, 13, 22])) + (bxr .u32 (bxr .u32 (bnd .u32 (s.getD 0 0) (s.getD 1 0)) (bnd .u32 (s.getD 0 0) (s.getD 2 0))) (bnd .u32 (s.getD 1 0) (s.getD 2 0)))))))))) H 2 87 (.int .u32 (IntKind.u32.wrap ((IntKind.u32.wrap ((IntKind.u32.wrap ((IntKind.u32.wrap ((s.getD 7 0) + (turnS (s.getD 4 0) ([6, 11, 25])))) + (bxr .u32 (bnd .u32 (s.getD 4 0) (s.getD 5 0)) (bnd .u32 (bxr .u32 4294967295 (s.getD 4 0)) (s.getD 6 0))))) + (IntKind.u32.wrap ((K256.getD i.toNat 0) + ((spF b).getD i.toNat 0))))) + (IntKind.u32.wrap ((turnS (s.getD 0 0) ([2, 13, 22])) + (bxr .u32 (bxr .u32 (bnd .u32 (s.getD 0 0) (s.getD 1 0)) (bnd .u32 (s.getD 0 0) (s.getD 2 0))) (bnd .u32 (s.getD 1 0) (s.getD 2 0)))))))) 1 (by kernel_rfl) rfl rfl (by rfl) (by have h := (iv_length .u32 ((s.take 1 ++ (((s.drop 0).take 7) ++ s.drop 8)).set 4 (IntKind.u32.wrap (((s.take 1 ++ (((s.drop 0).take 7) ++ s.drop 8)).getD 4 0) + (IntKind.u32.wrap ((IntKind.u32.wrap ((IntKind.u32.wrap ((s.getD 7 0) + (turnS (s.getD 4 0) ([6, 11, 25])))) + (bxr .u32 (bnd .u32 (s.getD 4 0) (s.getD 5 0)) (bnd .u32 (bxr .u32 4294967295 (s.getD 4 0)) (s.getD 6 0))))) + (IntKind.u32.wrap ((K256.getD i.toNat 0) + ((spF b).getD i.toNat 0))))))))).trans ((List.length_set ..).trans (show (s.take 1 ++ (((s.drop 0).take 7) ++ s.drop 8)).length = 8 by simp only [List.length_append, List.length_cons, List.length_nil, List.length_take, List.length_drop]; have h1 : ((s.drop 0).take 7).length = 7 := (by first | (simp only [iv_length, List.length_set, List.length_replicate, *]; done) | (simp [iv_length, *]; done) | (simp [Value.cells, iv_length, *]; done) | omega | (simp [Value.cells, iv_length] <;> omega)); have h2 : s.length = 8 := (by first | (simp only [iv_length, List.length_set, List.length_replicate, *]; done) | (simp [iv_length, *]; done) | (simp [Value.cells, iv_length, *]; done) | omega | (simp [Value.cells, iv_length] <;> omega)); omega)); omega) (by simp [Value.oneCell']) (by exact iv_set _ _ _ _ (by have h : ((s.take 1 ++ (((s.drop 0).take 7) ++ s.drop 8)).set 4 (IntKind.u32.wrap (((s.take 1 ++ (((s.drop 0).take 7) ++ s.drop 8)).getD 4 0) + (IntKind.u32.wrap ((IntKind.u32.wrap ((IntKind.u32.wrap ((s.getD 7 0) + (turnS (s.getD 4 0) ([6, 11, 25])))) + (bxr .u32 (bnd .u32 (s.getD 4 0) (s.getD 5 0)) (bnd .u32 (bxr .u32 4294967295 (s.getD 4 0)) (s.getD 6 0))))) + (IntKind.u32.wrap ((K256.getD i.toNat 0) + ((spF b).getD i.toNat 0)))))))).length = _ := ((List.length_set ..).trans (show (s.take 1 ++ (((s.drop 0).take 7) ++ s.drop 8)).length = 8 by simp only [List.length_append, List.length_cons, List.length_nil, List.length_take, List.length_drop]; have h1 : ((s.drop 0).take 7).length = 7 := (by first | (simp only [iv_length, List.length_set, List.length_replicate, *]; done) | (simp [iv_length, *]; done) | (simp [Value.cells, iv_length, *]; done) | omega | (simp [Value.cells, iv_length] <;> omega)); have h2 : s.length = 8 := (by first | (simp only [iv_length, List.length_set, List.length_replicate, *]; done) | (simp [iv_length, *]; done) | (simp [Value.cells, iv_length, *]; done) | omega | (simp [Value.cells, iv_length] <;> omega)); omega)); omega)) (fun w27 H => ?_)
    dsimp only [List.set] at H
    refine wc_nil rfl ?_
    refine n_blk ?_
    refine n_sq ?_
    refine wn_reg 2 (by kernel_rfl) ?_
    refine wc_run (T' := [(1, .pointer (some ⟨kb, 0, none⟩)), (3, .pointer (some ⟨b1, 0, none⟩)), (6, .pointer (some ⟨b3, 0, none⟩)), (7, .pointer (some ⟨b7, 0, none⟩)), (8, .pointer (some ⟨b10, 0, none⟩)), (86, .int .i64 (IntKind.i64.wrap (i + 1)))]) (L2 := (rng 1 1)) 1 [1, 3, 6, 7, 8, 86] (by kernel_rfl) ?_
    rw [wi64 (x := i + 1) (by first | omega | (simp only [List.length_append, List.length_cons, List.length_nil, List.length_set, List.length_replicate, List.length_drop, List.length_take, iv_length, Nat.zero_add] at * <;> omega)) (by first | omega | (simp only [List.length_append, List.length_cons, List.length_nil, List.length_set, List.length_replicate, List.length_drop, List.length_take, iv_length, Nat.zero_add] at * <;> omega))]
    refine wc_run (T' := [(1, .pointer (some ⟨kb, 0, none⟩)), (3, .pointer (some ⟨b1, 0, none⟩)), (6, .pointer (some ⟨b3, 0, none⟩)), (7, .pointer (some ⟨b7, 0, none⟩)), (8, .pointer (some ⟨b10, 0, none⟩)), (18, .int .i64 (i + 1))]) (L2 := (rng 2 0)) 1 [1, 3, 6, 7, 8, 18] (by kernel_rfl) ?_
    refine wc_nil rfl ?_
    refine round_end (i + 1, ((s.take 1 ++ (((s.drop 0).take 7) ++ s.drop 8)).set 4 (IntKind.u32.wrap (((s.take 1 ++ (((s.drop 0).take 7) ++ s.drop 8)).getD 4 0) + (IntKind.u32.wrap ((IntKind.u32.wrap ((IntKind.u32.wrap ((s.getD 7 0) + (turnS (s.getD 4 0) ([6, 11, 25])))) + (bxr .u32 (bnd .u32 (s.getD 4 0) (s.getD 5 0)) (bnd .u32 (bxr .u32 4294967295 (s.getD 4 0)) (s.getD 6 0))))) + (IntKind.u32.wrap ((K256.getD i.toNat 0) + ((spF b).getD i.toNat 0)))))))).set 0 (IntKind.u32.wrap ((IntKind.u32.wrap ((IntKind.u32.wrap ((IntKind.u32.wrap ((s.getD 7 0) + (turnS (s.getD 4 0) ([6, 11, 25])))) + (bxr .u32 (bnd .u32 (s.getD 4 0) (s.getD 5 0)) (bnd .u32 (bxr .u32 4294967295 (s.getD 4 0)) (s.getD 6 0))))) + (IntKind.u32.wrap ((K256.getD i.toNat 0) + ((spF b).getD i.toNat 0))))) + (IntKind.u32.wrap ((turnS (s.getD 0 0) ([2, 13, 22])) + (bxr .u32 (bxr .u32 (bnd .u32 (s.getD 0 0) (s.getD 1 0)) (bnd .u32 (s.getD 0 0) (s.getD 2 0))) (bnd .u32 (s.getD 1 0) (s.getD 2 0)))))))) [1, 3, 6, 7, 8, 18] (by kernel_rfl) ⟨H.sel [2, 3, 4, 5] (by decide) rfl, ?_⟩ ?_
    · obtain ⟨h1, h2, h3, h4⟩ := hi
      rw [rn_made h3]
      have e1 : (i + 1).toNat = i.toNat + 1 := by omega
      refine ⟨by omega, by omega, rfl, ?_⟩
      rw [e1, itN, ← h4]; rfl
    · first | omega | (dsimp only; omega)
  · have hc14 := of_decide_eq_false hc14
    refine wn_exit 0 (by kernel_rfl) ?_
    refine e_sq ?_
    refine e_then ?_
    refine e_blk ?_
    refine n_sq ?_
    refine wn_seq (by kernel_rfl) ?_
    refine wn_seq (by kernel_rfl) ?_
    refine wn_reg 1 (by kernel_rfl) ?_
    refine wc_run (T' := [(3, .pointer (some ⟨b1, 0, none⟩)), (6, .pointer (some ⟨b3, 0, none⟩)), (8, .pointer (some ⟨b10, 0, none⟩)), (87, .int .i64 0)]) (L2 := (rng 1 0)) 1 [3, 6, 8, 87] (by kernel_rfl) ?_
    refine wc_nil rfl ?_
    refine n_sq ?_
    refine wn_block 2 (by kernel_rfl) ?_
    obtain ⟨hs1, hs2, hs3, hs4⟩ := hi
    have hs5 : i.toNat = 64 := by omega
    refine wn_loop (fun ((j, q) : Int × List Int) => [(3, .pointer (some ⟨b1, 0, none⟩)), (6, .pointer (some ⟨b3, 0, none⟩)), (8, .pointer (some ⟨b10, 0, none⟩)), (87, .int .i64 j)]) (fun ((j, q) : Int × List Int) w' => Hp no w w' [.bk b10 (row (iv .u32 s) 90), .bk b7 (row (iv .u32 (spF b)) 88), .bk b3 (row (iv .u32 (List.replicate 8 0)) 90), .bk b1 (row (iv .u32 q) 90)] ∧ 0 ≤ j ∧ j ≤ 8 ∧ q.length = 8 ∧ q = itN (adS s) j.toNat hv) (fun ((j, q) : Int × List Int) => (8 - j).toNat) ((0 : Int), hv) [3, 6, 8, 87] (by kernel_rfl) rfl ⟨H, by simp [itN, hh]⟩ ?_
    rintro ⟨j, q⟩ w28 ⟨H, hi⟩
    try dsimp only at H hi
    refine wn_pick (T' := [(3, .pointer (some ⟨b1, 0, none⟩)), (6, .pointer (some ⟨b3, 0, none⟩)), (8, .pointer (some ⟨b10, 0, none⟩)), (87, .int .i64 j)]) [3, 6, 8, 87] (by kernel_rfl) ?_
    refine wn_seq (by kernel_rfl) ?_
    refine wn_reg 1 (by kernel_rfl) ?_
    refine wc_run (T' := [(3, .pointer (some ⟨b1, 0, none⟩)), (6, .pointer (some ⟨b3, 0, none⟩)), (8, .pointer (some ⟨b10, 0, none⟩)), (87, .int .i64 j), (88, .bool (decide (j < (8 : Int))))]) (L2 := (rng 1 0)) 1 [3, 6, 8, 87, 88] (by kernel_rfl) ?_
    refine wc_nil rfl ?_
    refine n_sq ?_
    refine wn_seq (by kernel_rfl) ?_
    refine wn_cond (.tmp 88) (decide (j < (8 : Int))) (by kernel_rfl) rfl (fun hc29 => ?_) (fun hc29 => ?_)
    · have hc29 := of_decide_eq_true hc29
      refine wn_skip (by kernel_rfl) ?_
      refine n_sq ?_
      refine wn_seq (by kernel_rfl) ?_
      refine wn_block 3 (by kernel_rfl) ?_
      refine wn_seq (by kernel_rfl) ?_
      refine wn_reg 2 (by kernel_rfl) ?_
      refine wc_run (T' := [(3, .pointer (some ⟨b1, 0, none⟩)), (6, .pointer (some ⟨b3, 0, none⟩)), (8, .pointer (some ⟨b10, 0, none⟩)), (14, .int .i64 j), (87, .int .i64 j)]) (L2 := (rng 2 0)) 2 [3, 6, 8, 14, 87] (by kernel_rfl) ?_
      refine wc_nil rfl ?_
      refine n_sq ?_
      refine wn_regD [] (ol [0, 1, 2, 3, 4, 5, 6, 7, 8]) (by kernel_rfl) H (fun w30 H => ?_)
      refine wc_run (T' := [(3, .pointer (some ⟨b1, 0, none⟩)), (6, .pointer (some ⟨b3, 0, none⟩)), (8, .pointer (some ⟨b10, 0, none⟩)), (14, .int .i64 j), (87, .int .i64 j), (90, .int .i64 j)]) (L2 := (ol [1, 2, 3, 4, 5, 6, 7, 8])) 1 [3, 6, 8, 14, 87, 90] (by kernel_rfl) ?_
      refine wc_ix (b := b1) (off := 0) (o' := j.toNat) (some 91) (some ⟨b1, 0, none⟩) 8 1 j (by kernel_rfl) rfl (by omega) (by omega) (by omega) ?_
      refine wc_ld (b := b1) (off := j.toNat) (some 92) 87 (.int .u32 (q.getD j.toNat 0)) (by kernel_rfl) (Ld.ent1 H 3 rfl (by kernel_rfl) (iv_get (by first | (simp only [iv_length, List.length_set, List.length_replicate, *]; done) | (simp [iv_length, *]; done) | (simp [Value.cells, iv_length, *]; done) | omega | (simp [Value.cells, iv_length] <;> omega)))) ?_
      refine wc_run (T' := [(3, .pointer (some ⟨b1, 0, none⟩)), (6, .pointer (some ⟨b3, 0, none⟩)), (8, .pointer (some ⟨b10, 0, none⟩)), (87, .int .i64 j), (90, .int .i64 j), (92, .int .u32 (q.getD j.toNat 0)), (93, .int .i64 j)]) (L2 := (ol [4, 5, 6, 7, 8])) 1 [3, 6, 8, 87, 90, 92, 93] (by kernel_rfl) ?_
      refine wc_ix (b := b10) (off := 0) (o' := j.toNat) (some 94) (some ⟨b10, 0, none⟩) 8 1 j (by kernel_rfl) rfl (by omega) (by omega) (by omega) ?_
      refine wc_ld (b := b10) (off := j.toNat) (some 95) 87 (.int .u32 (s.getD j.toNat 0)) (by kernel_rfl) (Ld.ent1 H 0 rfl (by kernel_rfl) (iv_get (by first | (simp only [iv_length, List.length_set, List.length_replicate, *]; done) | (simp [iv_length, *]; done) | (simp [Value.cells, iv_length, *]; done) | omega | (simp [Value.cells, iv_length] <;> omega)))) ?_
      refine wc_run (T' := [(3, .pointer (some ⟨b1, 0, none⟩)), (6, .pointer (some ⟨b3, 0, none⟩)), (8, .pointer (some ⟨b10, 0, none⟩)), (87, .int .i64 j), (90, .int .i64 j), (96, .int .u32 (IntKind.u32.wrap ((q.getD j.toNat 0) + (s.getD j.toNat 0))))]) (L2 := (ol [7, 8])) 1 [3, 6, 8, 87, 90, 96] (by kernel_rfl) ?_
      refine wc_ix (b := b1) (off := 0) (o' := j.toNat) (some 97) (some ⟨b1, 0, none⟩) 8 1 j (by kernel_rfl) rfl (by omega) (by omega) (by omega) ?_
      refine wc_st (b := b1) (off := j.toNat) (Tb := 90) (vs := ([.int .u32 (IntKind.u32.wrap ((q.getD j.toNat 0) + (s.getD j.toNat 0)))])) (cs' := (iv .u32 (q.set j.toNat (IntKind.u32.wrap ((q.getD j.toNat 0) + (s.getD j.toNat 0)))))) H 3 87 (.int .u32 (IntKind.u32.wrap ((q.getD j.toNat 0) + (s.getD j.toNat 0)))) 1 (by kernel_rfl) rfl rfl (by rfl) (by first | (simp only [iv_length, List.length_set, List.length_replicate, *]; done) | (simp [iv_length, *]; done) | (simp [Value.cells, iv_length, *]; done) | omega | (simp [Value.cells, iv_length] <;> omega)) (by simp [Value.oneCell']) (by exact iv_set _ _ _ _ (by first | (simp only [iv_length, List.length_set, List.length_replicate, *]; done) | (simp [iv_length, *]; done) | (simp [Value.cells, iv_length, *]; done) | omega | (simp [Value.cells, iv_length] <;> omega))) (fun w31 H => ?_)
      dsimp only [List.set] at H
      refine wc_nil rfl ?_
      refine n_np ?_
      refine n_blk ?_
      refine n_sq ?_
      refine wn_reg 2 (by kernel_rfl) ?_
      refine wc_run (T' := [(3, .pointer (some ⟨b1, 0, none⟩)), (6, .pointer (some ⟨b3, 0, none⟩)), (8, .pointer (some ⟨b10, 0, none⟩)), (98, .int .i64 (IntKind.i64.wrap (j + 1)))]) (L2 := (rng 1 1)) 1 [3, 6, 8, 98] (by kernel_rfl) ?_
      rw [wi64 (x := j + 1) (by first | omega | (simp only [List.length_append, List.length_cons, List.length_nil, List.length_set, List.length_replicate, List.length_drop, List.length_take, iv_length, Nat.zero_add] at * <;> omega)) (by first | omega | (simp only [List.length_append, List.length_cons, List.length_nil, List.length_set, List.length_replicate, List.length_drop, List.length_take, iv_length, Nat.zero_add] at * <;> omega))]
      refine wc_run (T' := [(3, .pointer (some ⟨b1, 0, none⟩)), (6, .pointer (some ⟨b3, 0, none⟩)), (8, .pointer (some ⟨b10, 0, none⟩)), (87, .int .i64 (j + 1))]) (L2 := (rng 2 0)) 1 [3, 6, 8, 87] (by kernel_rfl) ?_
      refine wc_nil rfl ?_
      refine round_end (j + 1, q.set j.toNat (IntKind.u32.wrap ((q.getD j.toNat 0) + (s.getD j.toNat 0)))) [3, 6, 8, 87] (by kernel_rfl) ⟨H, ?_⟩ ?_
      · obtain ⟨h1, h2, h3, h4⟩ := hi
        have e1 : (j + 1).toNat = j.toNat + 1 := by omega
        refine ⟨by omega, by omega, by simp [h3], ?_⟩
        rw [e1, itN, adS, ← h4]
      · first | omega | (dsimp only; omega)
    · have hc29 := of_decide_eq_false hc29
      refine wn_exit 2 (by kernel_rfl) ?_
      refine e_sq ?_
      refine e_then ?_
      refine e_blk ?_
      refine n_sq ?_
      refine wn_seq (by kernel_rfl) ?_
      refine wn_reg 2 (by kernel_rfl) ?_
      refine wc_ld (b := b1) (off := 0) (some 99) 90 (.agg (iv .u32 q).toArray) (by kernel_rfl) (Ld.entW H 3 (n := 8) rfl (by kernel_rfl) (by first | (simp only [iv_length, List.length_set, List.length_replicate, *]; done) | (simp [iv_length, *]; done) | (simp [Value.cells, iv_length, *]; done) | omega | (simp [Value.cells, iv_length] <;> omega))) ?_
      refine wc_st (b := b3) (off := 0) (Tb := 90) (vs := (iv .u32 q)) (cs' := (iv .u32 q)) H 2 90 (.agg (iv .u32 q).toArray) 8 (by kernel_rfl) rfl rfl (by first | (simp only [iv_length, List.length_set, List.length_replicate, *]; done) | (simp [iv_length, *]; done) | (simp [Value.cells, iv_length, *]; done) | omega | (simp [Value.cells, iv_length] <;> omega)) (by have h := (iv_length .u32 (List.replicate 8 0)).trans List.length_replicate; omega) (by exact iv_flat _ _) (by first | rfl | exact blit_all _ _ (by first | (simp only [iv_length, List.length_set, List.length_replicate, *]; done) | (simp [iv_length, *]; done) | (simp [Value.cells, iv_length, *]; done) | omega | (simp [Value.cells, iv_length] <;> omega)) | (simp [blit, List.drop_append, List.take_append, iv_length, *]; done)) (fun w32 H => ?_)
      dsimp only [List.set] at H
      refine wc_nil rfl ?_
      refine n_sq ?_
      refine wn_ret (by kernel_rfl) ?_
      refine ret1 _ (Or.inr rfl) Try.results55 ⟨_, _, rfl, Ld.entW H 2 (n := 8) rfl (by kernel_rfl) (by first | (simp only [iv_length, List.length_set, List.length_replicate, *]; done) | (simp [iv_length, *]; done) | (simp [Value.cells, iv_length, *]; done) | omega | (simp [Value.cells, iv_length] <;> omega))⟩ ?_
      have he33 : (cmpF hv b) = q := by
        obtain ⟨h1, h2, h3, h4⟩ := hi
        have e : j.toNat = 8 := by omega
        rw [h4, e, hs4, hs5, cmpF]
      exact ⟨by first | (rw [he33]; done) | (rw [he33]; rfl), H.nil, by exact cmpF_length hh⟩
end Go.Proofs.Ytfeecdcanjkohaa
