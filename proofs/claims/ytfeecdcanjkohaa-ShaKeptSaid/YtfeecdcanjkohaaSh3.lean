/-
  Walks of some of this seat's functions: each call's answer, and what it leaves of memory. No condition beside those that stand in each theorem.
-/
import Derived.Test.YtfeecdcanjkohaaRows
import Derived.Test.YtfeecdcanjkohaaSh2
set_option linter.all false
namespace Go.Proofs.Ytfeecdcanjkohaa
open Go.RowKit Go.Px

noncomputable def cd_msg_Read : Code := (Try.f28.body).getD .skip
set_option maxHeartbeats 400000 in
theorem msg_Read (w : World) (b : List Int) (A : Option Addr) (c : Nat) (hb : Rd w A (iv .u8 b)) (hr : ∀ j, 0 ≤ b.getD j 0 ∧ b.getD j 0 < 256) (hn : b.length ≤ 140737488351232) :
    Calls Try.prog 28 #[.slice A b.length c] w (fun e w' => e = .returned (.tuple #[.agg ([.int .u8 ((rdM b).k), .int .u64 ((rdM b).f), .int .u64 ((rdM b).t), .int .u64 ((rdM b).a), .int .u64 ((rdM b).n)] ++ ((iv .u8 ((rdM b).x)) ++ (iv .u8 ((rdM b).y))) : List Value).toArray, .int .i64 (rdE b)]) ∧ Hp no w w' [] ∧ (rdM b).x.length = 32 ∧ (rdM b).y.length = 32) := by
  have hl := mwW_length b
  have hw := mwW_range b
  have hwg := get_of_mem (p := fun x => 0 ≤ x ∧ x < 18446744073709551616) (l := mwW b) (by omega) hw
  have hX0 : rdX b = frF 32 32 (((mwW b).drop 5).take 4) := rfl
  have hY0 : rdY b = frF 32 32 (((mwW b).drop 9).take 4) := rfl
  have hXr := get_of_mem (p := fun x => 0 ≤ x ∧ x < 256) (by omega) (frF_range (n := 32) (((mwW b).drop 5).take 4))
  have hYr := get_of_mem (p := fun x => 0 ≤ x ∧ x < 256) (by omega) (frF_range (n := 32) (((mwW b).drop 9).take 4))
  have hk8 : 0 ≤ IntKind.u8.wrap ((mwW b).getD 0 0) ∧ IntKind.u8.wrap ((mwW b).getD 0 0) < 256 := by rw [wrap8]; omega
  have hF : rdOk b = false → rdM b = ⟨0, 0, 0, 0, 0, List.replicate 32 0, List.replicate 32 0⟩ := fun h => by unfold rdM; rw [if_neg (by rw [h]; decide)]
  have hT : rdOk b = true → rdM b = ⟨IntKind.u8.wrap ((mwW b).getD 0 0), (mwW b).getD 1 0, (mwW b).getD 2 0, (mwW b).getD 3 0, (mwW b).getD 4 0, rdX b, rdY b⟩ := fun h => by unfold rdM; rw [if_pos h]
  have hEF : rdOk b = false → rdE b = if mwE b = 0 then 8 else mwE b := fun h => by unfold rdE; rw [if_neg (by rw [h]; decide)]
  have hET : rdOk b = true → rdE b = 0 := fun h => by unfold rdE; rw [if_pos h]
  have hA : mwE b ≠ 0 → rdOk b = false := fun h => by unfold rdOk; simp [h]
  have hB : (mwW b).getD 0 0 > 3 → rdOk b = false := fun h => by unfold rdOk; rw [decide_eq_false (by omega)]; rfl
  have hC : mayM (IntKind.u8.wrap ((mwW b).getD 0 0)) ((mwW b).getD 1 0) ((mwW b).getD 2 0) ((mwW b).getD 3 0) ((mwW b).getD 4 0)  (frF 32 32 (((mwW b).drop 5).take 4)) (frF 32 32 (((mwW b).drop 9).take 4)) = false → rdOk b = false := fun h => by unfold rdOk rdX rdY; rw [h, Bool.and_false]
  have hD : mwE b = 0 → ¬ (mwW b).getD 0 0 > 3 → mayM (IntKind.u8.wrap ((mwW b).getD 0 0)) ((mwW b).getD 1 0) ((mwW b).getD 2 0) ((mwW b).getD 3 0) ((mwW b).getD 4 0)  (frF 32 32 (((mwW b).drop 5).take 4)) (frF 32 32 (((mwW b).drop 9).take 4)) = true → rdOk b = true := fun h1 h2 h3 => by unfold rdOk rdX rdY; rw [h3, decide_eq_true (by omega)]; rfl
  refine enter (args := [_]) (c := cd_msg_Read) (N := 45) Try.func28 (by kernel_rfl) (by kernel_rfl) (by simp) ?_
  have H := Hp.start w
  refine wn_seq (by kernel_rfl) ?_
  refine wn_reg 2 (by kernel_rfl) ?_
  refine wc_new H (some 2) (row ([.int .u8 0] ++ ((iv .u64 (List.replicate 4 0)) ++ (iv .u8 (List.replicate 64 0)))) 49) (fun r => .pointer (some ⟨r, 0, none⟩)) (by kernel_rfl) (fun b1 w2 H => ?_)
  refine wc_run (T' := [(0, .slice A b.length c), (2, .pointer (some ⟨b1, 0, none⟩))]) (L2 := (rng 2 0)) 1 [0, 2] (by kernel_rfl) ?_
  refine wc_nil rfl ?_
  refine n_sq ?_
  refine wn_seq (by kernel_rfl) ?_
  refine wn_reg 8 (by kernel_rfl) ?_
  refine wc_run (T' := [(2, .pointer (some ⟨b1, 0, none⟩)), (8, .slice A b.length c)]) (L2 := (rng 1 7)) 1 [2, 8] (by kernel_rfl) ?_
  refine wc_call (some 9) (by kernel_rfl) (msg_Words w2 b A c (hb.keep H.keep) hr hn) ?_
  rintro _ w3 ⟨rfl, H1, hf4⟩
  refine ⟨_, rfl, fun _ => H1.keep, ?_⟩
  replace H := H.call H1
  simp only [List.nil_append] at H
  refine wc_run (T' := [(2, .pointer (some ⟨b1, 0, none⟩)), (10, .agg (iv .u64 (mwW b)).toArray), (11, .int .i64 (mwE b))]) (L2 := (rng 5 3)) 3 [2, 10, 11] (by kernel_rfl) ?_
  refine wc_new H (some 4) (row (iv .u64 (List.replicate 13 0)) 61) (fun r => .pointer (some ⟨r, 0, none⟩)) (by kernel_rfl) (fun b5 w6 H => ?_)
  refine wc_st (b := b5) (off := 0) (Tb := 61) (vs := (iv .u64 (mwW b))) (cs' := (iv .u64 (mwW b))) H 0 61 (.agg (iv .u64 (mwW b)).toArray) 13 (by kernel_rfl) rfl rfl (by exact (iv_length .u64 (mwW b)).trans hf4) (by have h := (iv_length .u64 (List.replicate 13 0)).trans List.length_replicate; omega) (by exact iv_flat _ _) (by exact blit_all _ _ ((show (iv .u64 (mwW b) : List Value).length = 13 from (iv_length .u64 (mwW b)).trans hf4).trans (show (iv .u64 (List.replicate 13 0) : List Value).length = 13 from (iv_length .u64 (List.replicate 13 0)).trans List.length_replicate).symm)) (fun w7 H => ?_)
  dsimp only [List.set] at H
  refine wc_run (T' := [(2, .pointer (some ⟨b1, 0, none⟩)), (4, .pointer (some ⟨b5, 0, none⟩)), (5, .int .i64 (mwE b))]) (L2 := (rng 8 0)) 1 [2, 4, 5] (by kernel_rfl) ?_
  refine wc_nil rfl ?_
  refine n_sq ?_
  refine wn_seq (by kernel_rfl) ?_
  refine wn_seq (by kernel_rfl) ?_
  refine wn_reg 2 (by kernel_rfl) ?_
  refine wc_run (T' := [(2, .pointer (some ⟨b1, 0, none⟩)), (4, .pointer (some ⟨b5, 0, none⟩)), (5, .int .i64 (mwE b)), (13, .bool ((mwE b) != (0 : Int)))]) (L2 := (rng 2 0)) 2 [2, 4, 5, 13] (by kernel_rfl) ?_
  refine wc_nil rfl ?_
  refine n_sq ?_
  refine wn_cond (.tmp 13) ((mwE b) != (0 : Int)) (by kernel_rfl) rfl (fun hc8 => ?_) (fun hc8 => ?_)
  · have hc8 := bneT hc8
    refine wn_seq (by kernel_rfl) ?_
    refine wn_reg 4 (by kernel_rfl) ?_
    refine wc_run (T' := [(2, .pointer (some ⟨b1, 0, none⟩)), (14, .agg ([.int .u8 0] ++ ((iv .u64 (List.replicate 4 0)) ++ (iv .u8 (List.replicate 64 0))) : List Value).toArray), (15, .int .i64 (mwE b))]) (L2 := (rng 2 2)) 2 [2, 14, 15] (by kernel_rfl) ?_
    refine wc_st (b := b1) (off := 0) (Tb := 49) (vs := ([.int .u8 0] ++ ((iv .u64 (List.replicate 4 0)) ++ (iv .u8 (List.replicate 64 0))))) (cs' := ([.int .u8 0] ++ ((iv .u64 (List.replicate 4 0)) ++ (iv .u8 (List.replicate 64 0))))) H 1 49 (.agg ([.int .u8 0] ++ ((iv .u64 (List.replicate 4 0)) ++ (iv .u8 (List.replicate 64 0))) : List Value).toArray) 69 (by kernel_rfl) rfl rfl (by exact (lenA (rfl : ([.int .u8 0] : List Value).length = 1) (lenA ((iv_length .u64 (List.replicate 4 0)).trans List.length_replicate) ((iv_length .u8 (List.replicate 64 0)).trans List.length_replicate)))) (by have h : ([.int .u8 0] ++ ((iv .u64 (List.replicate 4 0)) ++ (iv .u8 (List.replicate 64 0))) : List Value).length = 69 := (lenA (rfl : ([.int .u8 0] : List Value).length = 1) (lenA ((iv_length .u64 (List.replicate 4 0)).trans List.length_replicate) ((iv_length .u8 (List.replicate 64 0)).trans List.length_replicate))); omega) (by exact (flA (by simp [Value.oneCell']) (flA (iv_flat _ _) (iv_flat _ _)))) (by exact blit_all _ _ ((show ([.int .u8 0] ++ ((iv .u64 (List.replicate 4 0)) ++ (iv .u8 (List.replicate 64 0))) : List Value).length = 69 from (lenA (rfl : ([.int .u8 0] : List Value).length = 1) (lenA ((iv_length .u64 (List.replicate 4 0)).trans List.length_replicate) ((iv_length .u8 (List.replicate 64 0)).trans List.length_replicate)))).trans (show ([.int .u8 0] ++ ((iv .u64 (List.replicate 4 0)) ++ (iv .u8 (List.replicate 64 0))) : List Value).length = 69 from (lenA (rfl : ([.int .u8 0] : List Value).length = 1) (lenA ((iv_length .u64 (List.replicate 4 0)).trans List.length_replicate) ((iv_length .u8 (List.replicate 64 0)).trans List.length_replicate)))).symm)) (fun w9 H => ?_)
    dsimp only [List.set] at H
    refine wc_run (T' := [(2, .pointer (some ⟨b1, 0, none⟩)), (3, .int .i64 (mwE b))]) (L2 := (rng 4 0)) 1 [2, 3] (by kernel_rfl) ?_
    refine wc_nil rfl ?_
    refine n_sq ?_
    refine wn_ret (by kernel_rfl) ?_
    refine r_sq ?_
    refine ret2 _ (Or.inr rfl) Try.results28 ⟨_, _, rfl, Ld.entW H 1 (n := 69) rfl (by kernel_rfl) (by exact (lenA (rfl : ([.int .u8 0] : List Value).length = 1) (lenA ((iv_length .u64 (List.replicate 4 0)).trans List.length_replicate) ((iv_length .u8 (List.replicate 64 0)).trans List.length_replicate))))⟩ rfl ?_
    have he10 : (rdM b).k = (0 : Int) := by
      rw [hF (hA hc8)]
    have he11 : (rdM b).f = (0 : Int) := by
      rw [hF (hA hc8)]
    have he12 : (rdM b).t = (0 : Int) := by
      rw [hF (hA hc8)]
    have he13 : (rdM b).a = (0 : Int) := by
      rw [hF (hA hc8)]
    have he14 : (rdM b).n = (0 : Int) := by
      rw [hF (hA hc8)]
    have he15 : (rdM b).x = (List.replicate 32 0) := by
      rw [hF (hA hc8)]
    have he16 : (rdM b).y = (List.replicate 32 0) := by
      rw [hF (hA hc8)]
    have he17 : rdE b = mwE b := by
      rw [hEF (hA hc8)]; rw [if_neg hc8]
    exact ⟨by first | (rw [he10, he11, he12, he13, he14, he15, he16, he17]; done) | (rw [he10, he11, he12, he13, he14, he15, he16, he17]; rfl), H.nil, by exact rdM_x b, by exact rdM_y b⟩
  · have hc8 := bneF hc8
    refine wn_skip (by kernel_rfl) ?_
    refine n_sq ?_
    refine wn_seq (by kernel_rfl) ?_
    refine wn_seq (by kernel_rfl) ?_
    refine wn_reg 3 (by kernel_rfl) ?_
    refine wc_run (T' := [(2, .pointer (some ⟨b1, 0, none⟩)), (4, .pointer (some ⟨b5, 0, none⟩)), (16, .pointer (some ⟨b5, 0, none⟩))]) (L2 := (rng 1 2)) 1 [2, 4, 16] (by kernel_rfl) ?_
    refine wc_ld (b := b5) (off := 0) (some 17) 22 (.int .u64 ((mwW b).getD 0 0)) (by kernel_rfl) (Ld.ent1 H 0 rfl (by kernel_rfl) (iv_get (by have h : (mwW b).length = _ := hf4; omega))) ?_
    refine wc_run (T' := [(2, .pointer (some ⟨b1, 0, none⟩)), (4, .pointer (some ⟨b5, 0, none⟩)), (18, .bool (decide (((mwW b).getD 0 0) > (3 : Int))))]) (L2 := (rng 3 0)) 1 [2, 4, 18] (by kernel_rfl) ?_
    refine wc_nil rfl ?_
    refine n_sq ?_
    refine wn_cond (.tmp 18) (decide (((mwW b).getD 0 0) > (3 : Int))) (by kernel_rfl) rfl (fun hc18 => ?_) (fun hc18 => ?_)
    · have hc18 := of_decide_eq_true hc18
      refine wn_seq (by kernel_rfl) ?_
      refine wn_reg 3 (by kernel_rfl) ?_
      refine wc_run (T' := [(2, .pointer (some ⟨b1, 0, none⟩)), (19, .agg ([.int .u8 0] ++ ((iv .u64 (List.replicate 4 0)) ++ (iv .u8 (List.replicate 64 0))) : List Value).toArray)]) (L2 := (rng 1 2)) 1 [2, 19] (by kernel_rfl) ?_
      refine wc_st (b := b1) (off := 0) (Tb := 49) (vs := ([.int .u8 0] ++ ((iv .u64 (List.replicate 4 0)) ++ (iv .u8 (List.replicate 64 0))))) (cs' := ([.int .u8 0] ++ ((iv .u64 (List.replicate 4 0)) ++ (iv .u8 (List.replicate 64 0))))) H 1 49 (.agg ([.int .u8 0] ++ ((iv .u64 (List.replicate 4 0)) ++ (iv .u8 (List.replicate 64 0))) : List Value).toArray) 69 (by kernel_rfl) rfl rfl (by exact (lenA (rfl : ([.int .u8 0] : List Value).length = 1) (lenA ((iv_length .u64 (List.replicate 4 0)).trans List.length_replicate) ((iv_length .u8 (List.replicate 64 0)).trans List.length_replicate)))) (by have h : ([.int .u8 0] ++ ((iv .u64 (List.replicate 4 0)) ++ (iv .u8 (List.replicate 64 0))) : List Value).length = 69 := (lenA (rfl : ([.int .u8 0] : List Value).length = 1) (lenA ((iv_length .u64 (List.replicate 4 0)).trans List.length_replicate) ((iv_length .u8 (List.replicate 64 0)).trans List.length_replicate))); omega) (by exact (flA (by simp [Value.oneCell']) (flA (iv_flat _ _) (iv_flat _ _)))) (by exact blit_all _ _ ((show ([.int .u8 0] ++ ((iv .u64 (List.replicate 4 0)) ++ (iv .u8 (List.replicate 64 0))) : List Value).length = 69 from (lenA (rfl : ([.int .u8 0] : List Value).length = 1) (lenA ((iv_length .u64 (List.replicate 4 0)).trans List.length_replicate) ((iv_length .u8 (List.replicate 64 0)).trans List.length_replicate)))).trans (show ([.int .u8 0] ++ ((iv .u64 (List.replicate 4 0)) ++ (iv .u8 (List.replicate 64 0))) : List Value).length = 69 from (lenA (rfl : ([.int .u8 0] : List Value).length = 1) (lenA ((iv_length .u64 (List.replicate 4 0)).trans List.length_replicate) ((iv_length .u8 (List.replicate 64 0)).trans List.length_replicate)))).symm)) (fun w19 H => ?_)
      dsimp only [List.set] at H
      refine wc_run (T' := [(2, .pointer (some ⟨b1, 0, none⟩)), (3, .int .i64 8)]) (L2 := (rng 3 0)) 1 [2, 3] (by kernel_rfl) ?_
      refine wc_nil rfl ?_
      refine n_sq ?_
      refine wn_ret (by kernel_rfl) ?_
      refine r_sq ?_
      refine ret2 _ (Or.inr rfl) Try.results28 ⟨_, _, rfl, Ld.entW H 1 (n := 69) rfl (by kernel_rfl) (by exact (lenA (rfl : ([.int .u8 0] : List Value).length = 1) (lenA ((iv_length .u64 (List.replicate 4 0)).trans List.length_replicate) ((iv_length .u8 (List.replicate 64 0)).trans List.length_replicate))))⟩ rfl ?_
      have he20 : (rdM b).k = (0 : Int) := by
        rw [hF (hB hc18)]
      have he21 : (rdM b).f = (0 : Int) := by
        rw [hF (hB hc18)]
      have he22 : (rdM b).t = (0 : Int) := by
        rw [hF (hB hc18)]
      have he23 : (rdM b).a = (0 : Int) := by
        rw [hF (hB hc18)]
      have he24 : (rdM b).n = (0 : Int) := by
        rw [hF (hB hc18)]
      have he25 : (rdM b).x = (List.replicate 32 0) := by
        rw [hF (hB hc18)]
      have he26 : (rdM b).y = (List.replicate 32 0) := by
        rw [hF (hB hc18)]
      have he27 : rdE b = (8 : Int) := by
        rw [hEF (hB hc18)]; rw [if_pos hc8]
      exact ⟨by first | (rw [he20, he21, he22, he23, he24, he25, he26, he27]; done) | (rw [he20, he21, he22, he23, he24, he25, he26, he27]; rfl), H.nil, by exact rdM_x b, by exact rdM_y b⟩
    · have hc18 := of_decide_eq_false hc18
      refine wn_skip (by kernel_rfl) ?_
      refine n_sq ?_
      refine wn_cut (fun (bc28 : Nat) => [(2, .pointer (some ⟨b1, 0, none⟩)), (6, .pointer (some ⟨bc28, 0, none⟩))]) (fun (bc28 : Nat) w' => Hp no w w' [.bk bc28 (row ([.int .u8 (IntKind.u8.wrap ((mwW b).getD 0 0)), .int .u64 ((mwW b).getD 1 0), .int .u64 ((mwW b).getD 2 0), .int .u64 ((mwW b).getD 3 0), .int .u64 ((mwW b).getD 4 0)] ++ ((iv .u8 (frF 32 32 (((mwW b).drop 5).take 4))) ++ (iv .u8 (frF 32 32 (((mwW b).drop 9).take 4))))) 49), .bk b5 (row (iv .u64 (mwW b)) 61), .bk b1 (row ([.int .u8 0] ++ ((iv .u64 (List.replicate 4 0)) ++ (iv .u8 (List.replicate 64 0)))) 49)] ∧ (frF 32 32 (((mwW b).drop 5).take 4)).length = 32 ∧ (frF 32 32 (((mwW b).drop 9).take 4)).length = 32) (by kernel_rfl) ?_ ?_
      · refine wn_regD [] (ob [0, 1, 2, 3, 4, 5, 6, 7, 8, 9, 10, 11, 12, 13, 15, 16, 17] (ob [14] (ol [18, 19, 20, 21]) (ol [20, 18, 19, 21])) (ol [20, 14, 18, 19, 21])) (by kernel_rfl) H (fun w29 H => ?_)
        refine wc_run (T' := [(2, .pointer (some ⟨b1, 0, none⟩)), (4, .pointer (some ⟨b5, 0, none⟩)), (20, .pointer (some ⟨b5, 0, none⟩))]) (L2 := (ob [1, 2, 3, 4, 5, 6, 7, 8, 9, 10, 11, 12, 13, 15, 16, 17] (ob [14] (ol [18, 19, 20, 21]) (ol [20, 18, 19, 21])) (ol [20, 14, 18, 19, 21]))) 1 [2, 4, 20] (by kernel_rfl) ?_
        refine wc_ld (b := b5) (off := 0) (some 21) 22 (.int .u64 ((mwW b).getD 0 0)) (by kernel_rfl) (Ld.ent1 H 0 rfl (by kernel_rfl) (iv_get (by have h : (mwW b).length = _ := hf4; omega))) ?_
        refine wc_run (T' := [(2, .pointer (some ⟨b1, 0, none⟩)), (4, .pointer (some ⟨b5, 0, none⟩)), (22, .int .u8 (IntKind.u8.wrap ((mwW b).getD 0 0))), (23, .pointer (some ⟨b5, 1, none⟩))]) (L2 := (ob [4, 5, 6, 7, 8, 9, 10, 11, 12, 13, 15, 16, 17] (ob [14] (ol [18, 19, 20, 21]) (ol [20, 18, 19, 21])) (ol [20, 14, 18, 19, 21]))) 2 [2, 4, 22, 23] (by kernel_rfl) ?_
        refine wc_ld (b := b5) (off := 1) (some 24) 22 (.int .u64 ((mwW b).getD 1 0)) (by kernel_rfl) (Ld.ent1 H 0 rfl (by kernel_rfl) (iv_get (by have h : (mwW b).length = _ := hf4; omega))) ?_
        refine wc_run (T' := [(2, .pointer (some ⟨b1, 0, none⟩)), (4, .pointer (some ⟨b5, 0, none⟩)), (22, .int .u8 (IntKind.u8.wrap ((mwW b).getD 0 0))), (24, .int .u64 ((mwW b).getD 1 0)), (25, .pointer (some ⟨b5, 2, none⟩))]) (L2 := (ob [6, 7, 8, 9, 10, 11, 12, 13, 15, 16, 17] (ob [14] (ol [18, 19, 20, 21]) (ol [20, 18, 19, 21])) (ol [20, 14, 18, 19, 21]))) 1 [2, 4, 22, 24, 25] (by kernel_rfl) ?_
        refine wc_ld (b := b5) (off := 2) (some 26) 22 (.int .u64 ((mwW b).getD 2 0)) (by kernel_rfl) (Ld.ent1 H 0 rfl (by kernel_rfl) (iv_get (by have h : (mwW b).length = _ := hf4; omega))) ?_
        refine wc_run (T' := [(2, .pointer (some ⟨b1, 0, none⟩)), (4, .pointer (some ⟨b5, 0, none⟩)), (22, .int .u8 (IntKind.u8.wrap ((mwW b).getD 0 0))), (24, .int .u64 ((mwW b).getD 1 0)), (26, .int .u64 ((mwW b).getD 2 0)), (27, .pointer (some ⟨b5, 3, none⟩))]) (L2 := (ob [8, 9, 10, 11, 12, 13, 15, 16, 17] (ob [14] (ol [18, 19, 20, 21]) (ol [20, 18, 19, 21])) (ol [20, 14, 18, 19, 21]))) 1 [2, 4, 22, 24, 26, 27] (by kernel_rfl) ?_
        refine wc_ld (b := b5) (off := 3) (some 28) 22 (.int .u64 ((mwW b).getD 3 0)) (by kernel_rfl) (Ld.ent1 H 0 rfl (by kernel_rfl) (iv_get (by have h : (mwW b).length = _ := hf4; omega))) ?_
        refine wc_run (T' := [(2, .pointer (some ⟨b1, 0, none⟩)), (4, .pointer (some ⟨b5, 0, none⟩)), (22, .int .u8 (IntKind.u8.wrap ((mwW b).getD 0 0))), (24, .int .u64 ((mwW b).getD 1 0)), (26, .int .u64 ((mwW b).getD 2 0)), (28, .int .u64 ((mwW b).getD 3 0)), (29, .pointer (some ⟨b5, 4, none⟩))]) (L2 := (ob [10, 11, 12, 13, 15, 16, 17] (ob [14] (ol [18, 19, 20, 21]) (ol [20, 18, 19, 21])) (ol [20, 14, 18, 19, 21]))) 1 [2, 4, 22, 24, 26, 28, 29] (by kernel_rfl) ?_
        refine wc_ld (b := b5) (off := 4) (some 30) 22 (.int .u64 ((mwW b).getD 4 0)) (by kernel_rfl) (Ld.ent1 H 0 rfl (by kernel_rfl) (iv_get (by have h : (mwW b).length = _ := hf4; omega))) ?_
        refine wc_sl (some 31) (some ⟨b5, 0, none⟩) 13 13 1 (some 5) (some 9) none (some ⟨b5, 5, none⟩) 4 8 (by kernel_rfl) (by kernel_rfl) (by simp) (by decide) (by decide) (by decide) (by decide) (by decide) (by decide) (by exact slA_some (by decide) (by first | rfl | omega)) ?_
        refine wc_run (T' := [(2, .pointer (some ⟨b1, 0, none⟩)), (4, .pointer (some ⟨b5, 0, none⟩)), (22, .int .u8 (IntKind.u8.wrap ((mwW b).getD 0 0))), (24, .int .u64 ((mwW b).getD 1 0)), (26, .int .u64 ((mwW b).getD 2 0)), (28, .int .u64 ((mwW b).getD 3 0)), (30, .int .u64 ((mwW b).getD 4 0)), (32, .pointer (some ⟨b5, 5, none⟩))]) (L2 := (ob [13, 15, 16, 17] (ob [14] (ol [18, 19, 20, 21]) (ol [20, 18, 19, 21])) (ol [20, 14, 18, 19, 21]))) 1 [2, 4, 22, 24, 26, 28, 30, 32] (by kernel_rfl) ?_
        refine wc_ld (b := b5) (off := 5) (some 33) 73 (.agg (iv .u64 (((mwW b).drop 5).take 4)).toArray) (by kernel_rfl) (Ld.entA H 0 (n := 4) rfl (by kernel_rfl) (by kernel_rfl) (by rw [iv_length]; have h : (mwW b).length = _ := hf4; omega) (by simp only [iv, ← List.map_drop, ← List.map_take])) ?_
        refine wc_sl (some 35) (some ⟨b5, 0, none⟩) 13 13 1 (some 9) none none (some ⟨b5, 9, none⟩) 4 4 (by kernel_rfl) (by kernel_rfl) (by simp) (by decide) (by decide) (by decide) (by decide) (by decide) (by decide) (by exact slA_some (by decide) (by first | rfl | omega)) ?_
        refine wc_run (T' := [(2, .pointer (some ⟨b1, 0, none⟩)), (22, .int .u8 (IntKind.u8.wrap ((mwW b).getD 0 0))), (24, .int .u64 ((mwW b).getD 1 0)), (26, .int .u64 ((mwW b).getD 2 0)), (28, .int .u64 ((mwW b).getD 3 0)), (30, .int .u64 ((mwW b).getD 4 0)), (33, .agg (iv .u64 (((mwW b).drop 5).take 4)).toArray), (36, .pointer (some ⟨b5, 9, none⟩))]) (L2 := (ob [17] (ob [14] (ol [18, 19, 20, 21]) (ol [20, 18, 19, 21])) (ol [20, 14, 18, 19, 21]))) 1 [2, 22, 24, 26, 28, 30, 33, 36] (by kernel_rfl) ?_
        refine wc_ld (b := b5) (off := 9) (some 37) 73 (.agg (iv .u64 (((mwW b).drop 9).take 4)).toArray) (by kernel_rfl) (Ld.entA H 0 (n := 4) rfl (by kernel_rfl) (by kernel_rfl) (by rw [iv_length]; have h : (mwW b).length = _ := hf4; omega) (by simp only [iv, ← List.map_drop, ← List.map_take])) ?_
        refine wc_br rfl ?_ ?_
        · refine wc_call (some 34) (by kernel_rfl) (sha_From w29 (((mwW b).drop 5).take 4) ((show (((mwW b).drop 5).take 4).length = 4 by simp only [List.length_take, List.length_drop]; have h : (mwW b).length = _ := hf4; omega))) ?_
          rintro _ w30 ⟨rfl, H1, hf31⟩
          refine ⟨_, rfl, fun _ => H1.keep, ?_⟩
          replace H := H.call H1
          simp only [List.nil_append] at H
          refine wc_br rfl ?_ ?_
          · refine wc_call (some 38) (by kernel_rfl) (sha_From w30 (((mwW b).drop 9).take 4) ((show (((mwW b).drop 9).take 4).length = 4 by simp only [List.length_take, List.length_drop]; have h : (mwW b).length = _ := hf4; omega))) ?_
            rintro _ w32 ⟨rfl, H1, hf33⟩
            refine ⟨_, rfl, fun _ => H1.keep, ?_⟩
            replace H := H.call H1
            simp only [List.nil_append] at H
            refine wc_run (T' := [(2, .pointer (some ⟨b1, 0, none⟩)), (39, .agg ([.int .u8 (IntKind.u8.wrap ((mwW b).getD 0 0)), .int .u64 ((mwW b).getD 1 0), .int .u64 ((mwW b).getD 2 0), .int .u64 ((mwW b).getD 3 0), .int .u64 ((mwW b).getD 4 0)] ++ ((iv .u8 (frF 32 32 (((mwW b).drop 5).take 4))) ++ (iv .u8 (frF 32 32 (((mwW b).drop 9).take 4)))) : List Value).toArray)]) (L2 := (ol [20, 21])) 1 [2, 39] (by kernel_rfl) ?_
            refine wc_new H (some 6) (row ([.int .u8 0] ++ ((iv .u64 (List.replicate 4 0)) ++ (iv .u8 (List.replicate 64 0)))) 49) (fun r => .pointer (some ⟨r, 0, none⟩)) (by kernel_rfl) (fun b34 w35 H => ?_)
            refine wc_st (b := b34) (off := 0) (Tb := 49) (vs := ([.int .u8 (IntKind.u8.wrap ((mwW b).getD 0 0)), .int .u64 ((mwW b).getD 1 0), .int .u64 ((mwW b).getD 2 0), .int .u64 ((mwW b).getD 3 0), .int .u64 ((mwW b).getD 4 0)] ++ ((iv .u8 (frF 32 32 (((mwW b).drop 5).take 4))) ++ (iv .u8 (frF 32 32 (((mwW b).drop 9).take 4)))))) (cs' := ([.int .u8 (IntKind.u8.wrap ((mwW b).getD 0 0)), .int .u64 ((mwW b).getD 1 0), .int .u64 ((mwW b).getD 2 0), .int .u64 ((mwW b).getD 3 0), .int .u64 ((mwW b).getD 4 0)] ++ ((iv .u8 (frF 32 32 (((mwW b).drop 5).take 4))) ++ (iv .u8 (frF 32 32 (((mwW b).drop 9).take 4)))))) H 0 49 (.agg ([.int .u8 (IntKind.u8.wrap ((mwW b).getD 0 0)), .int .u64 ((mwW b).getD 1 0), .int .u64 ((mwW b).getD 2 0), .int .u64 ((mwW b).getD 3 0), .int .u64 ((mwW b).getD 4 0)] ++ ((iv .u8 (frF 32 32 (((mwW b).drop 5).take 4))) ++ (iv .u8 (frF 32 32 (((mwW b).drop 9).take 4)))) : List Value).toArray) 69 (by kernel_rfl) rfl rfl (by exact (lenA (rfl : ([.int .u8 (IntKind.u8.wrap ((mwW b).getD 0 0)), .int .u64 ((mwW b).getD 1 0), .int .u64 ((mwW b).getD 2 0), .int .u64 ((mwW b).getD 3 0), .int .u64 ((mwW b).getD 4 0)] : List Value).length = 5) (lenA ((iv_length .u8 (frF 32 32 (((mwW b).drop 5).take 4))).trans hf31) ((iv_length .u8 (frF 32 32 (((mwW b).drop 9).take 4))).trans hf33)))) (by have h : ([.int .u8 0] ++ ((iv .u64 (List.replicate 4 0)) ++ (iv .u8 (List.replicate 64 0))) : List Value).length = 69 := (lenA (rfl : ([.int .u8 0] : List Value).length = 1) (lenA ((iv_length .u64 (List.replicate 4 0)).trans List.length_replicate) ((iv_length .u8 (List.replicate 64 0)).trans List.length_replicate))); omega) (by exact (flA (by simp [Value.oneCell']) (flA (iv_flat _ _) (iv_flat _ _)))) (by exact blit_all _ _ ((show ([.int .u8 (IntKind.u8.wrap ((mwW b).getD 0 0)), .int .u64 ((mwW b).getD 1 0), .int .u64 ((mwW b).getD 2 0), .int .u64 ((mwW b).getD 3 0), .int .u64 ((mwW b).getD 4 0)] ++ ((iv .u8 (frF 32 32 (((mwW b).drop 5).take 4))) ++ (iv .u8 (frF 32 32 (((mwW b).drop 9).take 4)))) : List Value).length = 69 from (lenA (rfl : ([.int .u8 (IntKind.u8.wrap ((mwW b).getD 0 0)), .int .u64 ((mwW b).getD 1 0), .int .u64 ((mwW b).getD 2 0), .int .u64 ((mwW b).getD 3 0), .int .u64 ((mwW b).getD 4 0)] : List Value).length = 5) (lenA ((iv_length .u8 (frF 32 32 (((mwW b).drop 5).take 4))).trans hf31) ((iv_length .u8 (frF 32 32 (((mwW b).drop 9).take 4))).trans hf33)))).trans (show ([.int .u8 0] ++ ((iv .u64 (List.replicate 4 0)) ++ (iv .u8 (List.replicate 64 0))) : List Value).length = 69 from (lenA (rfl : ([.int .u8 0] : List Value).length = 1) (lenA ((iv_length .u64 (List.replicate 4 0)).trans List.length_replicate) ((iv_length .u8 (List.replicate 64 0)).trans List.length_replicate)))).symm)) (fun w36 H => ?_)
            dsimp only [List.set] at H
            refine wc_nil rfl ?_
            refine n_np ?_
            exact cut_end (b34) [2, 6] (by kernel_rfl) ⟨H, hf31, hf33⟩
          · refine wc_new H (some 6) (row ([.int .u8 0] ++ ((iv .u64 (List.replicate 4 0)) ++ (iv .u8 (List.replicate 64 0)))) 49) (fun r => .pointer (some ⟨r, 0, none⟩)) (by kernel_rfl) (fun b37 w38 H => ?_)
            refine wc_call (some 38) (by kernel_rfl) (sha_From w38 (((mwW b).drop 9).take 4) ((show (((mwW b).drop 9).take 4).length = 4 by simp only [List.length_take, List.length_drop]; have h : (mwW b).length = _ := hf4; omega))) ?_
            rintro _ w39 ⟨rfl, H1, hf40⟩
            refine ⟨_, rfl, fun _ => H1.keep, ?_⟩
            replace H := H.call H1
            simp only [List.nil_append] at H
            refine wc_run (T' := [(2, .pointer (some ⟨b1, 0, none⟩)), (6, .pointer (some ⟨b37, 0, none⟩)), (39, .agg ([.int .u8 (IntKind.u8.wrap ((mwW b).getD 0 0)), .int .u64 ((mwW b).getD 1 0), .int .u64 ((mwW b).getD 2 0), .int .u64 ((mwW b).getD 3 0), .int .u64 ((mwW b).getD 4 0)] ++ ((iv .u8 (frF 32 32 (((mwW b).drop 5).take 4))) ++ (iv .u8 (frF 32 32 (((mwW b).drop 9).take 4)))) : List Value).toArray)]) (L2 := (ol [21])) 1 [2, 6, 39] (by kernel_rfl) ?_
            refine wc_st (b := b37) (off := 0) (Tb := 49) (vs := ([.int .u8 (IntKind.u8.wrap ((mwW b).getD 0 0)), .int .u64 ((mwW b).getD 1 0), .int .u64 ((mwW b).getD 2 0), .int .u64 ((mwW b).getD 3 0), .int .u64 ((mwW b).getD 4 0)] ++ ((iv .u8 (frF 32 32 (((mwW b).drop 5).take 4))) ++ (iv .u8 (frF 32 32 (((mwW b).drop 9).take 4)))))) (cs' := ([.int .u8 (IntKind.u8.wrap ((mwW b).getD 0 0)), .int .u64 ((mwW b).getD 1 0), .int .u64 ((mwW b).getD 2 0), .int .u64 ((mwW b).getD 3 0), .int .u64 ((mwW b).getD 4 0)] ++ ((iv .u8 (frF 32 32 (((mwW b).drop 5).take 4))) ++ (iv .u8 (frF 32 32 (((mwW b).drop 9).take 4)))))) H 0 49 (.agg ([.int .u8 (IntKind.u8.wrap ((mwW b).getD 0 0)), .int .u64 ((mwW b).getD 1 0), .int .u64 ((mwW b).getD 2 0), .int .u64 ((mwW b).getD 3 0), .int .u64 ((mwW b).getD 4 0)] ++ ((iv .u8 (frF 32 32 (((mwW b).drop 5).take 4))) ++ (iv .u8 (frF 32 32 (((mwW b).drop 9).take 4)))) : List Value).toArray) 69 (by kernel_rfl) rfl rfl (by exact (lenA (rfl : ([.int .u8 (IntKind.u8.wrap ((mwW b).getD 0 0)), .int .u64 ((mwW b).getD 1 0), .int .u64 ((mwW b).getD 2 0), .int .u64 ((mwW b).getD 3 0), .int .u64 ((mwW b).getD 4 0)] : List Value).length = 5) (lenA ((iv_length .u8 (frF 32 32 (((mwW b).drop 5).take 4))).trans hf31) ((iv_length .u8 (frF 32 32 (((mwW b).drop 9).take 4))).trans hf40)))) (by have h : ([.int .u8 0] ++ ((iv .u64 (List.replicate 4 0)) ++ (iv .u8 (List.replicate 64 0))) : List Value).length = 69 := (lenA (rfl : ([.int .u8 0] : List Value).length = 1) (lenA ((iv_length .u64 (List.replicate 4 0)).trans List.length_replicate) ((iv_length .u8 (List.replicate 64 0)).trans List.length_replicate))); omega) (by exact (flA (by simp [Value.oneCell']) (flA (iv_flat _ _) (iv_flat _ _)))) (by exact blit_all _ _ ((show ([.int .u8 (IntKind.u8.wrap ((mwW b).getD 0 0)), .int .u64 ((mwW b).getD 1 0), .int .u64 ((mwW b).getD 2 0), .int .u64 ((mwW b).getD 3 0), .int .u64 ((mwW b).getD 4 0)] ++ ((iv .u8 (frF 32 32 (((mwW b).drop 5).take 4))) ++ (iv .u8 (frF 32 32 (((mwW b).drop 9).take 4)))) : List Value).length = 69 from (lenA (rfl : ([.int .u8 (IntKind.u8.wrap ((mwW b).getD 0 0)), .int .u64 ((mwW b).getD 1 0), .int .u64 ((mwW b).getD 2 0), .int .u64 ((mwW b).getD 3 0), .int .u64 ((mwW b).getD 4 0)] : List Value).length = 5) (lenA ((iv_length .u8 (frF 32 32 (((mwW b).drop 5).take 4))).trans hf31) ((iv_length .u8 (frF 32 32 (((mwW b).drop 9).take 4))).trans hf40)))).trans (show ([.int .u8 0] ++ ((iv .u64 (List.replicate 4 0)) ++ (iv .u8 (List.replicate 64 0))) : List Value).length = 69 from (lenA (rfl : ([.int .u8 0] : List Value).length = 1) (lenA ((iv_length .u64 (List.replicate 4 0)).trans List.length_replicate) ((iv_length .u8 (List.replicate 64 0)).trans List.length_replicate)))).symm)) (fun w41 H => ?_)
            dsimp only [List.set] at H
            refine wc_nil rfl ?_
            refine n_np ?_
            exact cut_end (b37) [2, 6] (by kernel_rfl) ⟨H, hf31, hf40⟩
        · refine wc_new H (some 6) (row ([.int .u8 0] ++ ((iv .u64 (List.replicate 4 0)) ++ (iv .u8 (List.replicate 64 0)))) 49) (fun r => .pointer (some ⟨r, 0, none⟩)) (by kernel_rfl) (fun b42 w43 H => ?_)
          refine wc_call (some 34) (by kernel_rfl) (sha_From w43 (((mwW b).drop 5).take 4) ((show (((mwW b).drop 5).take 4).length = 4 by simp only [List.length_take, List.length_drop]; have h : (mwW b).length = _ := hf4; omega))) ?_
          rintro _ w44 ⟨rfl, H1, hf45⟩
          refine ⟨_, rfl, fun _ => H1.keep, ?_⟩
          replace H := H.call H1
          simp only [List.nil_append] at H
          refine wc_call (some 38) (by kernel_rfl) (sha_From w44 (((mwW b).drop 9).take 4) ((show (((mwW b).drop 9).take 4).length = 4 by simp only [List.length_take, List.length_drop]; have h : (mwW b).length = _ := hf4; omega))) ?_
          rintro _ w46 ⟨rfl, H1, hf47⟩
          refine ⟨_, rfl, fun _ => H1.keep, ?_⟩
          replace H := H.call H1
          simp only [List.nil_append] at H
          refine wc_run (T' := [(2, .pointer (some ⟨b1, 0, none⟩)), (6, .pointer (some ⟨b42, 0, none⟩)), (39, .agg ([.int .u8 (IntKind.u8.wrap ((mwW b).getD 0 0)), .int .u64 ((mwW b).getD 1 0), .int .u64 ((mwW b).getD 2 0), .int .u64 ((mwW b).getD 3 0), .int .u64 ((mwW b).getD 4 0)] ++ ((iv .u8 (frF 32 32 (((mwW b).drop 5).take 4))) ++ (iv .u8 (frF 32 32 (((mwW b).drop 9).take 4)))) : List Value).toArray)]) (L2 := (ol [21])) 1 [2, 6, 39] (by kernel_rfl) ?_
          refine wc_st (b := b42) (off := 0) (Tb := 49) (vs := ([.int .u8 (IntKind.u8.wrap ((mwW b).getD 0 0)), .int .u64 ((mwW b).getD 1 0), .int .u64 ((mwW b).getD 2 0), .int .u64 ((mwW b).getD 3 0), .int .u64 ((mwW b).getD 4 0)] ++ ((iv .u8 (frF 32 32 (((mwW b).drop 5).take 4))) ++ (iv .u8 (frF 32 32 (((mwW b).drop 9).take 4)))))) (cs' := ([.int .u8 (IntKind.u8.wrap ((mwW b).getD 0 0)), .int .u64 ((mwW b).getD 1 0), .int .u64 ((mwW b).getD 2 0), .int .u64 ((mwW b).getD 3 0), .int .u64 ((mwW b).getD 4 0)] ++ ((iv .u8 (frF 32 32 (((mwW b).drop 5).take 4))) ++ (iv .u8 (frF 32 32 (((mwW b).drop 9).take 4)))))) H 0 49 (.agg ([.int .u8 (IntKind.u8.wrap ((mwW b).getD 0 0)), .int .u64 ((mwW b).getD 1 0), .int .u64 ((mwW b).getD 2 0), .int .u64 ((mwW b).getD 3 0), .int .u64 ((mwW b).getD 4 0)] ++ ((iv .u8 (frF 32 32 (((mwW b).drop 5).take 4))) ++ (iv .u8 (frF 32 32 (((mwW b).drop 9).take 4)))) : List Value).toArray) 69 (by kernel_rfl) rfl rfl (by exact (lenA (rfl : ([.int .u8 (IntKind.u8.wrap ((mwW b).getD 0 0)), .int .u64 ((mwW b).getD 1 0), .int .u64 ((mwW b).getD 2 0), .int .u64 ((mwW b).getD 3 0), .int .u64 ((mwW b).getD 4 0)] : List Value).length = 5) (lenA ((iv_length .u8 (frF 32 32 (((mwW b).drop 5).take 4))).trans hf45) ((iv_length .u8 (frF 32 32 (((mwW b).drop 9).take 4))).trans hf47)))) (by have h : ([.int .u8 0] ++ ((iv .u64 (List.replicate 4 0)) ++ (iv .u8 (List.replicate 64 0))) : List Value).length = 69 := (lenA (rfl : ([.int .u8 0] : List Value).length = 1) (lenA ((iv_length .u64 (List.replicate 4 0)).trans List.length_replicate) ((iv_length .u8 (List.replicate 64 0)).trans List.length_replicate))); omega) (by exact (flA (by simp [Value.oneCell']) (flA (iv_flat _ _) (iv_flat _ _)))) (by exact blit_all _ _ ((show ([.int .u8 (IntKind.u8.wrap ((mwW b).getD 0 0)), .int .u64 ((mwW b).getD 1 0), .int .u64 ((mwW b).getD 2 0), .int .u64 ((mwW b).getD 3 0), .int .u64 ((mwW b).getD 4 0)] ++ ((iv .u8 (frF 32 32 (((mwW b).drop 5).take 4))) ++ (iv .u8 (frF 32 32 (((mwW b).drop 9).take 4)))) : List Value).length = 69 from (lenA (rfl : ([.int .u8 (IntKind.u8.wrap ((mwW b).getD 0 0)), .int .u64 ((mwW b).getD 1 0), .int .u64 ((mwW b).getD 2 0), .int .u64 ((mwW b).getD 3 0), .int .u64 ((mwW b).getD 4 0)] : List Value).length = 5) (lenA ((iv_length .u8 (frF 32 32 (((mwW b).drop 5).take 4))).trans hf45) ((iv_length .u8 (frF 32 32 (((mwW b).drop 9).take 4))).trans hf47)))).trans (show ([.int .u8 0] ++ ((iv .u64 (List.replicate 4 0)) ++ (iv .u8 (List.replicate 64 0))) : List Value).length = 69 from (lenA (rfl : ([.int .u8 0] : List Value).length = 1) (lenA ((iv_length .u64 (List.replicate 4 0)).trans List.length_replicate) ((iv_length .u8 (List.replicate 64 0)).trans List.length_replicate)))).symm)) (fun w48 H => ?_)
          dsimp only [List.set] at H
          refine wc_nil rfl ?_
          refine n_np ?_
          exact cut_end (b42) [2, 6] (by kernel_rfl) ⟨H, hf45, hf47⟩
      rintro bc28 w49 ⟨H, hf50, hf51⟩
      try dsimp only at H hf50 hf51
      refine wn_pick (T' := [(2, .pointer (some ⟨b1, 0, none⟩)), (6, .pointer (some ⟨bc28, 0, none⟩))]) [2, 6] (by kernel_rfl) ?_
      refine wn_seq (by kernel_rfl) ?_
      refine wn_seq (by kernel_rfl) ?_
      refine wn_reg 3 (by kernel_rfl) ?_
      refine wc_ld (b := bc28) (off := 0) (some 40) 49 (.agg ([.int .u8 (IntKind.u8.wrap ((mwW b).getD 0 0)), .int .u64 ((mwW b).getD 1 0), .int .u64 ((mwW b).getD 2 0), .int .u64 ((mwW b).getD 3 0), .int .u64 ((mwW b).getD 4 0)] ++ ((iv .u8 (frF 32 32 (((mwW b).drop 5).take 4))) ++ (iv .u8 (frF 32 32 (((mwW b).drop 9).take 4)))) : List Value).toArray) (by kernel_rfl) (Ld.entW H 0 (n := 69) rfl (by kernel_rfl) (by exact (lenA (rfl : ([.int .u8 (IntKind.u8.wrap ((mwW b).getD 0 0)), .int .u64 ((mwW b).getD 1 0), .int .u64 ((mwW b).getD 2 0), .int .u64 ((mwW b).getD 3 0), .int .u64 ((mwW b).getD 4 0)] : List Value).length = 5) (lenA ((iv_length .u8 (frF 32 32 (((mwW b).drop 5).take 4))).trans hf50) ((iv_length .u8 (frF 32 32 (((mwW b).drop 9).take 4))).trans hf51))))) ?_
      refine wc_call (some 41) (by kernel_rfl) (msg_May w49 (IntKind.u8.wrap ((mwW b).getD 0 0)) ((mwW b).getD 1 0) ((mwW b).getD 2 0) ((mwW b).getD 3 0) ((mwW b).getD 4 0) (frF 32 32 (((mwW b).drop 5).take 4)) (frF 32 32 (((mwW b).drop 9).take 4)) hf50 hf51 hk8 (hwg 1) (hwg 2) (hwg 3) (hwg 4) hXr hYr) ?_
      rintro _ w52 ⟨rfl, H1⟩
      refine ⟨_, rfl, fun _ => H1.keep, ?_⟩
      replace H := H.call H1
      simp only [List.nil_append] at H
      refine wc_run (T' := [(2, .pointer (some ⟨b1, 0, none⟩)), (6, .pointer (some ⟨bc28, 0, none⟩)), (42, .bool (!(mayM (IntKind.u8.wrap ((mwW b).getD 0 0)) ((mwW b).getD 1 0) ((mwW b).getD 2 0) ((mwW b).getD 3 0) ((mwW b).getD 4 0) (frF 32 32 (((mwW b).drop 5).take 4)) (frF 32 32 (((mwW b).drop 9).take 4)))))]) (L2 := (rng 3 0)) 1 [2, 6, 42] (by kernel_rfl) ?_
      refine wc_nil rfl ?_
      refine n_sq ?_
      refine wn_cond (.tmp 42) (!(mayM (IntKind.u8.wrap ((mwW b).getD 0 0)) ((mwW b).getD 1 0) ((mwW b).getD 2 0) ((mwW b).getD 3 0) ((mwW b).getD 4 0) (frF 32 32 (((mwW b).drop 5).take 4)) (frF 32 32 (((mwW b).drop 9).take 4)))) (by kernel_rfl) rfl (fun hc53 => ?_) (fun hc53 => ?_)
      · have hc53 := notT hc53
        refine wn_seq (by kernel_rfl) ?_
        refine wn_reg 3 (by kernel_rfl) ?_
        refine wc_run (T' := [(2, .pointer (some ⟨b1, 0, none⟩)), (43, .agg ([.int .u8 0] ++ ((iv .u64 (List.replicate 4 0)) ++ (iv .u8 (List.replicate 64 0))) : List Value).toArray)]) (L2 := (rng 1 2)) 1 [2, 43] (by kernel_rfl) ?_
        refine wc_st (b := b1) (off := 0) (Tb := 49) (vs := ([.int .u8 0] ++ ((iv .u64 (List.replicate 4 0)) ++ (iv .u8 (List.replicate 64 0))))) (cs' := ([.int .u8 0] ++ ((iv .u64 (List.replicate 4 0)) ++ (iv .u8 (List.replicate 64 0))))) H 2 49 (.agg ([.int .u8 0] ++ ((iv .u64 (List.replicate 4 0)) ++ (iv .u8 (List.replicate 64 0))) : List Value).toArray) 69 (by kernel_rfl) rfl rfl (by exact (lenA (rfl : ([.int .u8 0] : List Value).length = 1) (lenA ((iv_length .u64 (List.replicate 4 0)).trans List.length_replicate) ((iv_length .u8 (List.replicate 64 0)).trans List.length_replicate)))) (by have h : ([.int .u8 0] ++ ((iv .u64 (List.replicate 4 0)) ++ (iv .u8 (List.replicate 64 0))) : List Value).length = 69 := (lenA (rfl : ([.int .u8 0] : List Value).length = 1) (lenA ((iv_length .u64 (List.replicate 4 0)).trans List.length_replicate) ((iv_length .u8 (List.replicate 64 0)).trans List.length_replicate))); omega) (by exact (flA (by simp [Value.oneCell']) (flA (iv_flat _ _) (iv_flat _ _)))) (by exact blit_all _ _ ((show ([.int .u8 0] ++ ((iv .u64 (List.replicate 4 0)) ++ (iv .u8 (List.replicate 64 0))) : List Value).length = 69 from (lenA (rfl : ([.int .u8 0] : List Value).length = 1) (lenA ((iv_length .u64 (List.replicate 4 0)).trans List.length_replicate) ((iv_length .u8 (List.replicate 64 0)).trans List.length_replicate)))).trans (show ([.int .u8 0] ++ ((iv .u64 (List.replicate 4 0)) ++ (iv .u8 (List.replicate 64 0))) : List Value).length = 69 from (lenA (rfl : ([.int .u8 0] : List Value).length = 1) (lenA ((iv_length .u64 (List.replicate 4 0)).trans List.length_replicate) ((iv_length .u8 (List.replicate 64 0)).trans List.length_replicate)))).symm)) (fun w54 H => ?_)
        dsimp only [List.set] at H
        refine wc_run (T' := [(2, .pointer (some ⟨b1, 0, none⟩)), (3, .int .i64 8)]) (L2 := (rng 3 0)) 1 [2, 3] (by kernel_rfl) ?_
        refine wc_nil rfl ?_
        refine n_sq ?_
        refine wn_ret (by kernel_rfl) ?_
        refine r_sq ?_
        refine ret2 _ (Or.inr rfl) Try.results28 ⟨_, _, rfl, Ld.entW H 2 (n := 69) rfl (by kernel_rfl) (by exact (lenA (rfl : ([.int .u8 0] : List Value).length = 1) (lenA ((iv_length .u64 (List.replicate 4 0)).trans List.length_replicate) ((iv_length .u8 (List.replicate 64 0)).trans List.length_replicate))))⟩ rfl ?_
        have he55 : (rdM b).k = (0 : Int) := by
          rw [hF (hC hc53)]
        have he56 : (rdM b).f = (0 : Int) := by
          rw [hF (hC hc53)]
        have he57 : (rdM b).t = (0 : Int) := by
          rw [hF (hC hc53)]
        have he58 : (rdM b).a = (0 : Int) := by
          rw [hF (hC hc53)]
        have he59 : (rdM b).n = (0 : Int) := by
          rw [hF (hC hc53)]
        have he60 : (rdM b).x = (List.replicate 32 0) := by
          rw [hF (hC hc53)]
        have he61 : (rdM b).y = (List.replicate 32 0) := by
          rw [hF (hC hc53)]
        have he62 : rdE b = (8 : Int) := by
          rw [hEF (hC hc53)]; rw [if_pos hc8]
        exact ⟨by first | (rw [he55, he56, he57, he58, he59, he60, he61, he62]; done) | (rw [he55, he56, he57, he58, he59, he60, he61, he62]; rfl), H.nil, by exact rdM_x b, by exact rdM_y b⟩
      · have hc53 := notF hc53
        refine wn_skip (by kernel_rfl) ?_
        refine n_sq ?_
        refine wn_seq (by kernel_rfl) ?_
        refine wn_reg 3 (by kernel_rfl) ?_
        refine wc_ld (b := bc28) (off := 0) (some 44) 49 (.agg ([.int .u8 (IntKind.u8.wrap ((mwW b).getD 0 0)), .int .u64 ((mwW b).getD 1 0), .int .u64 ((mwW b).getD 2 0), .int .u64 ((mwW b).getD 3 0), .int .u64 ((mwW b).getD 4 0)] ++ ((iv .u8 (frF 32 32 (((mwW b).drop 5).take 4))) ++ (iv .u8 (frF 32 32 (((mwW b).drop 9).take 4)))) : List Value).toArray) (by kernel_rfl) (Ld.entW H 0 (n := 69) rfl (by kernel_rfl) (by exact (lenA (rfl : ([.int .u8 (IntKind.u8.wrap ((mwW b).getD 0 0)), .int .u64 ((mwW b).getD 1 0), .int .u64 ((mwW b).getD 2 0), .int .u64 ((mwW b).getD 3 0), .int .u64 ((mwW b).getD 4 0)] : List Value).length = 5) (lenA ((iv_length .u8 (frF 32 32 (((mwW b).drop 5).take 4))).trans hf50) ((iv_length .u8 (frF 32 32 (((mwW b).drop 9).take 4))).trans hf51))))) ?_
        refine wc_st (b := b1) (off := 0) (Tb := 49) (vs := ([.int .u8 (IntKind.u8.wrap ((mwW b).getD 0 0)), .int .u64 ((mwW b).getD 1 0), .int .u64 ((mwW b).getD 2 0), .int .u64 ((mwW b).getD 3 0), .int .u64 ((mwW b).getD 4 0)] ++ ((iv .u8 (frF 32 32 (((mwW b).drop 5).take 4))) ++ (iv .u8 (frF 32 32 (((mwW b).drop 9).take 4)))))) (cs' := ([.int .u8 (IntKind.u8.wrap ((mwW b).getD 0 0)), .int .u64 ((mwW b).getD 1 0), .int .u64 ((mwW b).getD 2 0), .int .u64 ((mwW b).getD 3 0), .int .u64 ((mwW b).getD 4 0)] ++ ((iv .u8 (frF 32 32 (((mwW b).drop 5).take 4))) ++ (iv .u8 (frF 32 32 (((mwW b).drop 9).take 4)))))) H 2 49 (.agg ([.int .u8 (IntKind.u8.wrap ((mwW b).getD 0 0)), .int .u64 ((mwW b).getD 1 0), .int .u64 ((mwW b).getD 2 0), .int .u64 ((mwW b).getD 3 0), .int .u64 ((mwW b).getD 4 0)] ++ ((iv .u8 (frF 32 32 (((mwW b).drop 5).take 4))) ++ (iv .u8 (frF 32 32 (((mwW b).drop 9).take 4)))) : List Value).toArray) 69 (by kernel_rfl) rfl rfl (by exact (lenA (rfl : ([.int .u8 (IntKind.u8.wrap ((mwW b).getD 0 0)), .int .u64 ((mwW b).getD 1 0), .int .u64 ((mwW b).getD 2 0), .int .u64 ((mwW b).getD 3 0), .int .u64 ((mwW b).getD 4 0)] : List Value).length = 5) (lenA ((iv_length .u8 (frF 32 32 (((mwW b).drop 5).take 4))).trans hf50) ((iv_length .u8 (frF 32 32 (((mwW b).drop 9).take 4))).trans hf51)))) (by have h : ([.int .u8 0] ++ ((iv .u64 (List.replicate 4 0)) ++ (iv .u8 (List.replicate 64 0))) : List Value).length = 69 := (lenA (rfl : ([.int .u8 0] : List Value).length = 1) (lenA ((iv_length .u64 (List.replicate 4 0)).trans List.length_replicate) ((iv_length .u8 (List.replicate 64 0)).trans List.length_replicate))); omega) (by exact (flA (by simp [Value.oneCell']) (flA (iv_flat _ _) (iv_flat _ _)))) (by exact blit_all _ _ ((show ([.int .u8 (IntKind.u8.wrap ((mwW b).getD 0 0)), .int .u64 ((mwW b).getD 1 0), .int .u64 ((mwW b).getD 2 0), .int .u64 ((mwW b).getD 3 0), .int .u64 ((mwW b).getD 4 0)] ++ ((iv .u8 (frF 32 32 (((mwW b).drop 5).take 4))) ++ (iv .u8 (frF 32 32 (((mwW b).drop 9).take 4)))) : List Value).length = 69 from (lenA (rfl : ([.int .u8 (IntKind.u8.wrap ((mwW b).getD 0 0)), .int .u64 ((mwW b).getD 1 0), .int .u64 ((mwW b).getD 2 0), .int .u64 ((mwW b).getD 3 0), .int .u64 ((mwW b).getD 4 0)] : List Value).length = 5) (lenA ((iv_length .u8 (frF 32 32 (((mwW b).drop 5).take 4))).trans hf50) ((iv_length .u8 (frF 32 32 (((mwW b).drop 9).take 4))).trans hf51)))).trans (show ([.int .u8 0] ++ ((iv .u64 (List.replicate 4 0)) ++ (iv .u8 (List.replicate 64 0))) : List Value).length = 69 from (lenA (rfl : ([.int .u8 0] : List Value).length = 1) (lenA ((iv_length .u64 (List.replicate 4 0)).trans List.length_replicate) ((iv_length .u8 (List.replicate 64 0)).trans List.length_replicate)))).symm)) (fun w63 H => ?_)
        dsimp only [List.set] at H
        refine wc_run (T' := [(2, .pointer (some ⟨b1, 0, none⟩)), (3, .int .i64 0)]) (L2 := (rng 3 0)) 1 [2, 3] (by kernel_rfl) ?_
        refine wc_nil rfl ?_
        refine n_sq ?_
        refine wn_ret (by kernel_rfl) ?_
        refine ret2 _ (Or.inr rfl) Try.results28 ⟨_, _, rfl, Ld.entW H 2 (n := 69) rfl (by kernel_rfl) (by exact (lenA (rfl : ([.int .u8 (IntKind.u8.wrap ((mwW b).getD 0 0)), .int .u64 ((mwW b).getD 1 0), .int .u64 ((mwW b).getD 2 0), .int .u64 ((mwW b).getD 3 0), .int .u64 ((mwW b).getD 4 0)] : List Value).length = 5) (lenA ((iv_length .u8 (frF 32 32 (((mwW b).drop 5).take 4))).trans hf50) ((iv_length .u8 (frF 32 32 (((mwW b).drop 9).take 4))).trans hf51))))⟩ rfl ?_
        have he64 : (rdM b).k = IntKind.u8.wrap ((mwW b).getD 0 0) := by
          rw [hT (hD hc8 hc18 hc53)]
        have he65 : (rdM b).f = (mwW b).getD 1 0 := by
          rw [hT (hD hc8 hc18 hc53)]
        have he66 : (rdM b).t = (mwW b).getD 2 0 := by
          rw [hT (hD hc8 hc18 hc53)]
        have he67 : (rdM b).a = (mwW b).getD 3 0 := by
          rw [hT (hD hc8 hc18 hc53)]
        have he68 : (rdM b).n = (mwW b).getD 4 0 := by
          rw [hT (hD hc8 hc18 hc53)]
        have he69 : (rdM b).x = frF 32 32 (((mwW b).drop 5).take 4) := by
          simp only [hT (hD hc8 hc18 hc53), hX0]
        have he70 : (rdM b).y = frF 32 32 (((mwW b).drop 9).take 4) := by
          simp only [hT (hD hc8 hc18 hc53), hY0]
        have he71 : rdE b = (0 : Int) := by
          rw [hET (hD hc8 hc18 hc53)]
        exact ⟨by first | (rw [he64, he65, he66, he67, he68, he69, he70, he71]; done) | (rw [he64, he65, he66, he67, he68, he69, he70, he71]; rfl), H.nil, by exact rdM_x b, by exact rdM_y b⟩

noncomputable def cd_proctorref07_Read : Code := (Try.f29.body).getD .skip
set_option maxHeartbeats 400000 in
theorem proctorref07_Read (w : World) (b : List Int) (A : Option Addr) (c : Nat) (hb : Rd w A (iv .u8 b)) (hr : ∀ j, 0 ≤ b.getD j 0 ∧ b.getD j 0 < 256) (hn : b.length ≤ 140737488351232) :
    Calls Try.prog 29 #[.slice A b.length c] w (fun e w' => e = .returned (.tuple #[.agg ([.int .u8 ((rdM b).k), .int .u64 ((rdM b).f), .int .u64 ((rdM b).t), .int .u64 ((rdM b).a), .int .u64 ((rdM b).n)] ++ ((iv .u8 ((rdM b).x)) ++ (iv .u8 ((rdM b).y))) : List Value).toArray, .int .i64 (rdE b)]) ∧ Hp no w w' [] ∧ (rdM b).x.length = 32 ∧ (rdM b).y.length = 32) := by
  have hl := mwW_length b
  have hw := mwW_range b
  have hwg := get_of_mem (p := fun x => 0 ≤ x ∧ x < 18446744073709551616) (l := mwW b) (by omega) hw
  have hX0 : rdX b = frF 32 32 (((mwW b).drop 5).take 4) := rfl
  have hY0 : rdY b = frF 32 32 (((mwW b).drop 9).take 4) := rfl
  have hXr := get_of_mem (p := fun x => 0 ≤ x ∧ x < 256) (by omega) (frF_range (n := 32) (((mwW b).drop 5).take 4))
  have hYr := get_of_mem (p := fun x => 0 ≤ x ∧ x < 256) (by omega) (frF_range (n := 32) (((mwW b).drop 9).take 4))
  have hk8 : 0 ≤ IntKind.u8.wrap ((mwW b).getD 0 0) ∧ IntKind.u8.wrap ((mwW b).getD 0 0) < 256 := by rw [wrap8]; omega
  have hF : rdOk b = false → rdM b = ⟨0, 0, 0, 0, 0, List.replicate 32 0, List.replicate 32 0⟩ := fun h => by unfold rdM; rw [if_neg (by rw [h]; decide)]
  have hT : rdOk b = true → rdM b = ⟨IntKind.u8.wrap ((mwW b).getD 0 0), (mwW b).getD 1 0, (mwW b).getD 2 0, (mwW b).getD 3 0, (mwW b).getD 4 0, rdX b, rdY b⟩ := fun h => by unfold rdM; rw [if_pos h]
  have hEF : rdOk b = false → rdE b = if mwE b = 0 then 8 else mwE b := fun h => by unfold rdE; rw [if_neg (by rw [h]; decide)]
  have hET : rdOk b = true → rdE b = 0 := fun h => by unfold rdE; rw [if_pos h]
  have hA : mwE b ≠ 0 → rdOk b = false := fun h => by unfold rdOk; simp [h]
  have hB : (mwW b).getD 0 0 > 3 → rdOk b = false := fun h => by unfold rdOk; rw [decide_eq_false (by omega)]; rfl
  have hC : mayM (IntKind.u8.wrap ((mwW b).getD 0 0)) ((mwW b).getD 1 0) ((mwW b).getD 2 0) ((mwW b).getD 3 0) ((mwW b).getD 4 0)  (frF 32 32 (((mwW b).drop 5).take 4)) (frF 32 32 (((mwW b).drop 9).take 4)) = false → rdOk b = false := fun h => by unfold rdOk rdX rdY; rw [h, Bool.and_false]
  have hD : mwE b = 0 → ¬ (mwW b).getD 0 0 > 3 → mayM (IntKind.u8.wrap ((mwW b).getD 0 0)) ((mwW b).getD 1 0) ((mwW b).getD 2 0) ((mwW b).getD 3 0) ((mwW b).getD 4 0)  (frF 32 32 (((mwW b).drop 5).take 4)) (frF 32 32 (((mwW b).drop 9).take 4)) = true → rdOk b = true := fun h1 h2 h3 => by unfold rdOk rdX rdY; rw [h3, decide_eq_true (by omega)]; rfl
  have h4 := four (mwW b) 5 (by omega)
  have h9 := four (mwW b) 9 (by omega)
  simp only [Nat.reduceAdd] at h4 h9
  rw [h4] at hX0 hXr hC hD
  rw [h9] at hY0 hYr hC hD
  refine enter (args := [_]) (c := cd_proctorref07_Read) (N := 58) Try.func29 (by kernel_rfl) (by kernel_rfl) (by simp) ?_
  have H := Hp.start w
  refine wn_seq (by kernel_rfl) ?_
  refine wn_reg 2 (by kernel_rfl) ?_
  refine wc_new H (some 2) (row ([.int .u8 0] ++ ((iv .u64 (List.replicate 4 0)) ++ (iv .u8 (List.replicate 64 0)))) 49) (fun r => .pointer (some ⟨r, 0, none⟩)) (by kernel_rfl) (fun b1 w2 H => ?_)
  refine wc_run (T' := [(0, .slice A b.length c), (2, .pointer (some ⟨b1, 0, none⟩))]) (L2 := (rng 2 0)) 1 [0, 2] (by kernel_rfl) ?_
  refine wc_nil rfl ?_
  refine n_sq ?_
  refine wn_seq (by kernel_rfl) ?_
  refine wn_reg 8 (by kernel_rfl) ?_
  refine wc_run (T' := [(2, .pointer (some ⟨b1, 0, none⟩)), (8, .slice A b.length c)]) (L2 := (rng 1 7)) 1 [2, 8] (by kernel_rfl) ?_
  refine wc_call (some 9) (by kernel_rfl) (proctorref07_Words w2 b A c (hb.keep H.keep) hr hn) ?_
  rintro _ w3 ⟨rfl, H1, hf4⟩
  refine ⟨_, rfl, fun _ => H1.keep, ?_⟩
  replace H := H.call H1
  simp only [List.nil_append] at H
  refine wc_run (T' := [(2, .pointer (some ⟨b1, 0, none⟩)), (10, .agg (iv .u64 (mwW b)).toArray), (11, .int .i64 (mwE b))]) (L2 := (rng 5 3)) 3 [2, 10, 11] (by kernel_rfl) ?_
  refine wc_new H (some 4) (row (iv .u64 (List.replicate 13 0)) 61) (fun r => .pointer (some ⟨r, 0, none⟩)) (by kernel_rfl) (fun b5 w6 H => ?_)
  refine wc_st (b := b5) (off := 0) (Tb := 61) (vs := (iv .u64 (mwW b))) (cs' := (iv .u64 (mwW b))) H 0 61 (.agg (iv .u64 (mwW b)).toArray) 13 (by kernel_rfl) rfl rfl (by exact (iv_length .u64 (mwW b)).trans hf4) (by have h := (iv_length .u64 (List.replicate 13 0)).trans List.length_replicate; omega) (by exact iv_flat _ _) (by exact blit_all _ _ ((show (iv .u64 (mwW b) : List Value).length = 13 from (iv_length .u64 (mwW b)).trans hf4).trans (show (iv .u64 (List.replicate 13 0) : List Value).length = 13 from (iv_length .u64 (List.replicate 13 0)).trans List.length_replicate).symm)) (fun w7 H => ?_)
  dsimp only [List.set] at H
  refine wc_run (T' := [(2, .pointer (some ⟨b1, 0, none⟩)), (4, .pointer (some ⟨b5, 0, none⟩)), (5, .int .i64 (mwE b))]) (L2 := (rng 8 0)) 1 [2, 4, 5] (by kernel_rfl) ?_
  refine wc_nil rfl ?_
  refine n_sq ?_
  refine wn_seq (by kernel_rfl) ?_
  refine wn_seq (by kernel_rfl) ?_
  refine wn_reg 2 (by kernel_rfl) ?_
  refine wc_run (T' := [(2, .pointer (some ⟨b1, 0, none⟩)), (4, .pointer (some ⟨b5, 0, none⟩)), (5, .int .i64 (mwE b)), (13, .bool ((mwE b) != (0 : Int)))]) (L2 := (rng 2 0)) 2 [2, 4, 5, 13] (by kernel_rfl) ?_
  refine wc_nil rfl ?_
  refine n_sq ?_
  refine wn_cond (.tmp 13) ((mwE b) != (0 : Int)) (by kernel_rfl) rfl (fun hc8 => ?_) (fun hc8 => ?_)
  · have hc8 := bneT hc8
    refine wn_seq (by kernel_rfl) ?_
    refine wn_reg 4 (by kernel_rfl) ?_
    refine wc_run (T' := [(2, .pointer (some ⟨b1, 0, none⟩)), (14, .agg ([.int .u8 0] ++ ((iv .u64 (List.replicate 4 0)) ++ (iv .u8 (List.replicate 64 0))) : List Value).toArray), (15, .int .i64 (mwE b))]) (L2 := (rng 2 2)) 2 [2, 14, 15] (by kernel_rfl) ?_
    refine wc_st (b := b1) (off := 0) (Tb := 49) (vs := ([.int .u8 0] ++ ((iv .u64 (List.replicate 4 0)) ++ (iv .u8 (List.replicate 64 0))))) (cs' := ([.int .u8 0] ++ ((iv .u64 (List.replicate 4 0)) ++ (iv .u8 (List.replicate 64 0))))) H 1 49 (.agg ([.int .u8 0] ++ ((iv .u64 (List.replicate 4 0)) ++ (iv .u8 (List.replicate 64 0))) : List Value).toArray) 69 (by kernel_rfl) rfl rfl (by exact (lenA (rfl : ([.int .u8 0] : List Value).length = 1) (lenA ((iv_length .u64 (List.replicate 4 0)).trans List.length_replicate) ((iv_length .u8 (List.replicate 64 0)).trans List.length_replicate)))) (by have h : ([.int .u8 0] ++ ((iv .u64 (List.replicate 4 0)) ++ (iv .u8 (List.replicate 64 0))) : List Value).length = 69 := (lenA (rfl : ([.int .u8 0] : List Value).length = 1) (lenA ((iv_length .u64 (List.replicate 4 0)).trans List.length_replicate) ((iv_length .u8 (List.replicate 64 0)).trans List.length_replicate))); omega) (by exact (flA (by simp [Value.oneCell']) (flA (iv_flat _ _) (iv_flat _ _)))) (by exact blit_all _ _ ((show ([.int .u8 0] ++ ((iv .u64 (List.replicate 4 0)) ++ (iv .u8 (List.replicate 64 0))) : List Value).length = 69 from (lenA (rfl : ([.int .u8 0] : List Value).length = 1) (lenA ((iv_length .u64 (List.replicate 4 0)).trans List.length_replicate) ((iv_length .u8 (List.replicate 64 0)).trans List.length_replicate)))).trans (show ([.int .u8 0] ++ ((iv .u64 (List.replicate 4 0)) ++ (iv .u8 (List.replicate 64 0))) : List Value).length = 69 from (lenA (rfl : ([.int .u8 0] : List Value).length = 1) (lenA ((iv_length .u64 (List.replicate 4 0)).trans List.length_replicate) ((iv_length .u8 (List.replicate 64 0)).trans List.length_replicate)))).symm)) (fun w9 H => ?_)
    dsimp only [List.set] at H
    refine wc_run (T' := [(2, .pointer (some ⟨b1, 0, none⟩)), (3, .int .i64 (mwE b))]) (L2 := (rng 4 0)) 1 [2, 3] (by kernel_rfl) ?_
    refine wc_nil rfl ?_
    refine n_sq ?_
    refine wn_ret (by kernel_rfl) ?_
    refine r_sq ?_
    refine ret2 _ (Or.inr rfl) Try.results29 ⟨_, _, rfl, Ld.entW H 1 (n := 69) rfl (by kernel_rfl) (by exact (lenA (rfl : ([.int .u8 0] : List Value).length = 1) (lenA ((iv_length .u64 (List.replicate 4 0)).trans List.length_replicate) ((iv_length .u8 (List.replicate 64 0)).trans List.length_replicate))))⟩ rfl ?_
    have he10 : (rdM b).k = (0 : Int) := by
      rw [hF (hA hc8)]
    have he11 : (rdM b).f = (0 : Int) := by
      rw [hF (hA hc8)]
    have he12 : (rdM b).t = (0 : Int) := by
      rw [hF (hA hc8)]
    have he13 : (rdM b).a = (0 : Int) := by
      rw [hF (hA hc8)]
    have he14 : (rdM b).n = (0 : Int) := by
      rw [hF (hA hc8)]
    have he15 : (rdM b).x = (List.replicate 32 0) := by
      rw [hF (hA hc8)]
    have he16 : (rdM b).y = (List.replicate 32 0) := by
      rw [hF (hA hc8)]
    have he17 : rdE b = mwE b := by
      rw [hEF (hA hc8)]; rw [if_neg hc8]
    exact ⟨by first | (rw [he10, he11, he12, he13, he14, he15, he16, he17]; done) | (rw [he10, he11, he12, he13, he14, he15, he16, he17]; rfl), H.nil, by exact rdM_x b, by exact rdM_y b⟩
  · have hc8 := bneF hc8
    refine wn_skip (by kernel_rfl) ?_
    refine n_sq ?_
    refine wn_cut (fun (bc18 : Nat) => [(2, .pointer (some ⟨b1, 0, none⟩)), (4, .pointer (some ⟨b5, 0, none⟩)), (6, .pointer (some ⟨bc18, 0, none⟩))]) (fun (bc18 : Nat) w' => Hp no w w' [.bk bc18 (row ([.int .u8 (IntKind.u8.wrap ((mwW b).getD 0 0)), .int .u64 ((mwW b).getD 1 0), .int .u64 ((mwW b).getD 2 0), .int .u64 ((mwW b).getD 3 0), .int .u64 ((mwW b).getD 4 0)] ++ ((iv .u8 (frF 32 32 ([(mwW b).getD 5 0, (mwW b).getD 6 0, (mwW b).getD 7 0, (mwW b).getD 8 0]))) ++ (iv .u8 (frF 32 32 ([(mwW b).getD 9 0, (mwW b).getD 10 0, (mwW b).getD 11 0, (mwW b).getD 12 0]))))) 49), .bk b5 (row (iv .u64 (mwW b)) 61), .bk b1 (row ([.int .u8 0] ++ ((iv .u64 (List.replicate 4 0)) ++ (iv .u8 (List.replicate 64 0)))) 49)] ∧ (frF 32 32 ([(mwW b).getD 5 0, (mwW b).getD 6 0, (mwW b).getD 7 0, (mwW b).getD 8 0])).length = 32 ∧ (frF 32 32 ([(mwW b).getD 9 0, (mwW b).getD 10 0, (mwW b).getD 11 0, (mwW b).getD 12 0])).length = 32) (by kernel_rfl) ?_ ?_
    · refine wn_regD [] (ob [0, 1, 2, 3, 4, 5, 6, 7, 8, 9, 10, 11, 12, 13, 14, 15, 16, 17, 18, 19, 21, 22, 23, 24, 25, 26, 27, 28, 29] (ob [20] (ol [30, 31, 32, 33]) (ol [32, 30, 31, 33])) (ol [32, 20, 30, 31, 33])) (by kernel_rfl) H (fun w19 H => ?_)
      refine wc_run (T' := [(2, .pointer (some ⟨b1, 0, none⟩)), (4, .pointer (some ⟨b5, 0, none⟩)), (16, .pointer (some ⟨b5, 0, none⟩))]) (L2 := (ob [1, 2, 3, 4, 5, 6, 7, 8, 9, 10, 11, 12, 13, 14, 15, 16, 17, 18, 19, 21, 22, 23, 24, 25, 26, 27, 28, 29] (ob [20] (ol [30, 31, 32, 33]) (ol [32, 30, 31, 33])) (ol [32, 20, 30, 31, 33]))) 1 [2, 4, 16] (by kernel_rfl) ?_
      refine wc_ld (b := b5) (off := 0) (some 17) 22 (.int .u64 ((mwW b).getD 0 0)) (by kernel_rfl) (Ld.ent1 H 0 rfl (by kernel_rfl) (iv_get (by have h : (mwW b).length = _ := hf4; omega))) ?_
      refine wc_run (T' := [(2, .pointer (some ⟨b1, 0, none⟩)), (4, .pointer (some ⟨b5, 0, none⟩)), (18, .int .u8 (IntKind.u8.wrap ((mwW b).getD 0 0))), (19, .pointer (some ⟨b5, 1, none⟩))]) (L2 := (ob [4, 5, 6, 7, 8, 9, 10, 11, 12, 13, 14, 15, 16, 17, 18, 19, 21, 22, 23, 24, 25, 26, 27, 28, 29] (ob [20] (ol [30, 31, 32, 33]) (ol [32, 30, 31, 33])) (ol [32, 20, 30, 31, 33]))) 2 [2, 4, 18, 19] (by kernel_rfl) ?_
      refine wc_ld (b := b5) (off := 1) (some 20) 22 (.int .u64 ((mwW b).getD 1 0)) (by kernel_rfl) (Ld.ent1 H 0 rfl (by kernel_rfl) (iv_get (by have h : (mwW b).length = _ := hf4; omega))) ?_
      refine wc_run (T' := [(2, .pointer (some ⟨b1, 0, none⟩)), (4, .pointer (some ⟨b5, 0, none⟩)), (18, .int .u8 (IntKind.u8.wrap ((mwW b).getD 0 0))), (20, .int .u64 ((mwW b).getD 1 0)), (21, .pointer (some ⟨b5, 2, none⟩))]) (L2 := (ob [6, 7, 8, 9, 10, 11, 12, 13, 14, 15, 16, 17, 18, 19, 21, 22, 23, 24, 25, 26, 27, 28, 29] (ob [20] (ol [30, 31, 32, 33]) (ol [32, 30, 31, 33])) (ol [32, 20, 30, 31, 33]))) 1 [2, 4, 18, 20, 21] (by kernel_rfl) ?_
      refine wc_ld (b := b5) (off := 2) (some 22) 22 (.int .u64 ((mwW b).getD 2 0)) (by kernel_rfl) (Ld.ent1 H 0 rfl (by kernel_rfl) (iv_get (by have h : (mwW b).length = _ := hf4; omega))) ?_
      refine wc_run (T' := [(2, .pointer (some ⟨b1, 0, none⟩)), (4, .pointer (some ⟨b5, 0, none⟩)), (18, .int .u8 (IntKind.u8.wrap ((mwW b).getD 0 0))), (20, .int .u64 ((mwW b).getD 1 0)), (22, .int .u64 ((mwW b).getD 2 0)), (23, .pointer (some ⟨b5, 3, none⟩))]) (L2 := (ob [8, 9, 10, 11, 12, 13, 14, 15, 16, 17, 18, 19, 21, 22, 23, 24, 25, 26, 27, 28, 29] (ob [20] (ol [30, 31, 32, 33]) (ol [32, 30, 31, 33])) (ol [32, 20, 30, 31, 33]))) 1 [2, 4, 18, 20, 22, 23] (by kernel_rfl) ?_
      refine wc_ld (b := b5) (off := 3) (some 24) 22 (.int .u64 ((mwW b).getD 3 0)) (by kernel_rfl) (Ld.ent1 H 0 rfl (by kernel_rfl) (iv_get (by have h : (mwW b).length = _ := hf4; omega))) ?_
      refine wc_run (T' := [(2, .pointer (some ⟨b1, 0, none⟩)), (4, .pointer (some ⟨b5, 0, none⟩)), (18, .int .u8 (IntKind.u8.wrap ((mwW b).getD 0 0))), (20, .int .u64 ((mwW b).getD 1 0)), (22, .int .u64 ((mwW b).getD 2 0)), (24, .int .u64 ((mwW b).getD 3 0)), (25, .pointer (some ⟨b5, 4, none⟩))]) (L2 := (ob [10, 11, 12, 13, 14, 15, 16, 17, 18, 19, 21, 22, 23, 24, 25, 26, 27, 28, 29] (ob [20] (ol [30, 31, 32, 33]) (ol [32, 30, 31, 33])) (ol [32, 20, 30, 31, 33]))) 1 [2, 4, 18, 20, 22, 24, 25] (by kernel_rfl) ?_
      refine wc_ld (b := b5) (off := 4) (some 26) 22 (.int .u64 ((mwW b).getD 4 0)) (by kernel_rfl) (Ld.ent1 H 0 rfl (by kernel_rfl) (iv_get (by have h : (mwW b).length = _ := hf4; omega))) ?_
      refine wc_run (T' := [(2, .pointer (some ⟨b1, 0, none⟩)), (4, .pointer (some ⟨b5, 0, none⟩)), (18, .int .u8 (IntKind.u8.wrap ((mwW b).getD 0 0))), (20, .int .u64 ((mwW b).getD 1 0)), (22, .int .u64 ((mwW b).getD 2 0)), (24, .int .u64 ((mwW b).getD 3 0)), (26, .int .u64 ((mwW b).getD 4 0)), (27, .pointer (some ⟨b5, 5, none⟩))]) (L2 := (ob [12, 13, 14, 15, 16, 17, 18, 19, 21, 22, 23, 24, 25, 26, 27, 28, 29] (ob [20] (ol [30, 31, 32, 33]) (ol [32, 30, 31, 33])) (ol [32, 20, 30, 31, 33]))) 1 [2, 4, 18, 20, 22, 24, 26, 27] (by kernel_rfl) ?_
      refine wc_ld (b := b5) (off := 5) (some 28) 22 (.int .u64 ((mwW b).getD 5 0)) (by kernel_rfl) (Ld.ent1 H 0 rfl (by kernel_rfl) (iv_get (by have h : (mwW b).length = _ := hf4; omega))) ?_
      refine wc_run (T' := [(2, .pointer (some ⟨b1, 0, none⟩)), (4, .pointer (some ⟨b5, 0, none⟩)), (18, .int .u8 (IntKind.u8.wrap ((mwW b).getD 0 0))), (20, .int .u64 ((mwW b).getD 1 0)), (22, .int .u64 ((mwW b).getD 2 0)), (24, .int .u64 ((mwW b).getD 3 0)), (26, .int .u64 ((mwW b).getD 4 0)), (28, .int .u64 ((mwW b).getD 5 0)), (29, .pointer (some ⟨b5, 6, none⟩))]) (L2 := (ob [14, 15, 16, 17, 18, 19, 21, 22, 23, 24, 25, 26, 27, 28, 29] (ob [20] (ol [30, 31, 32, 33]) (ol [32, 30, 31, 33])) (ol [32, 20, 30, 31, 33]))) 1 [2, 4, 18, 20, 22, 24, 26, 28, 29] (by kernel_rfl) ?_
      refine wc_ld (b := b5) (off := 6) (some 30) 22 (.int .u64 ((mwW b).getD 6 0)) (by kernel_rfl) (Ld.ent1 H 0 rfl (by kernel_rfl) (iv_get (by have h : (mwW b).length = _ := hf4; omega))) ?_
      refine wc_run (T' := [(2, .pointer (some ⟨b1, 0, none⟩)), (4, .pointer (some ⟨b5, 0, none⟩)), (18, .int .u8 (IntKind.u8.wrap ((mwW b).getD 0 0))), (20, .int .u64 ((mwW b).getD 1 0)), (22, .int .u64 ((mwW b).getD 2 0)), (24, .int .u64 ((mwW b).getD 3 0)), (26, .int .u64 ((mwW b).getD 4 0)), (28, .int .u64 ((mwW b).getD 5 0)), (30, .int .u64 ((mwW b).getD 6 0)), (31, .pointer (some ⟨b5, 7, none⟩))]) (L2 := (ob [16, 17, 18, 19, 21, 22, 23, 24, 25, 26, 27, 28, 29] (ob [20] (ol [30, 31, 32, 33]) (ol [32, 30, 31, 33])) (ol [32, 20, 30, 31, 33]))) 1 [2, 4, 18, 20, 22, 24, 26, 28, 30, 31] (by kernel_rfl) ?_
      refine wc_ld (b := b5) (off := 7) (some 32) 22 (.int .u64 ((mwW b).getD 7 0)) (by kernel_rfl) (Ld.ent1 H 0 rfl (by kernel_rfl) (iv_get (by have h : (mwW b).length = _ := hf4; omega))) ?_
      refine wc_run (T' := [(2, .pointer (some ⟨b1, 0, none⟩)), (4, .pointer (some ⟨b5, 0, none⟩)), (18, .int .u8 (IntKind.u8.wrap ((mwW b).getD 0 0))), (20, .int .u64 ((mwW b).getD 1 0)), (22, .int .u64 ((mwW b).getD 2 0)), (24, .int .u64 ((mwW b).getD 3 0)), (26, .int .u64 ((mwW b).getD 4 0)), (28, .int .u64 ((mwW b).getD 5 0)), (30, .int .u64 ((mwW b).getD 6 0)), (32, .int .u64 ((mwW b).getD 7 0)), (33, .pointer (some ⟨b5, 8, none⟩))]) (L2 := (ob [18, 19, 21, 22, 23, 24, 25, 26, 27, 28, 29] (ob [20] (ol [30, 31, 32, 33]) (ol [32, 30, 31, 33])) (ol [32, 20, 30, 31, 33]))) 1 [2, 4, 18, 20, 22, 24, 26, 28, 30, 32, 33] (by kernel_rfl) ?_
      refine wc_ld (b := b5) (off := 8) (some 34) 22 (.int .u64 ((mwW b).getD 8 0)) (by kernel_rfl) (Ld.ent1 H 0 rfl (by kernel_rfl) (iv_get (by have h : (mwW b).length = _ := hf4; omega))) ?_
      refine wc_run (T' := [(2, .pointer (some ⟨b1, 0, none⟩)), (4, .pointer (some ⟨b5, 0, none⟩)), (18, .int .u8 (IntKind.u8.wrap ((mwW b).getD 0 0))), (20, .int .u64 ((mwW b).getD 1 0)), (22, .int .u64 ((mwW b).getD 2 0)), (24, .int .u64 ((mwW b).getD 3 0)), (26, .int .u64 ((mwW b).getD 4 0)), (35, .agg #[.int .u64 ((mwW b).getD 5 0), .int .u64 ((mwW b).getD 6 0), .int .u64 ((mwW b).getD 7 0), .int .u64 ((mwW b).getD 8 0)]), (37, .pointer (some ⟨b5, 9, none⟩))]) (L2 := (ob [22, 23, 24, 25, 26, 27, 28, 29] (ob [20] (ol [30, 31, 32, 33]) (ol [32, 30, 31, 33])) (ol [32, 20, 30, 31, 33]))) 2 [2, 4, 18, 20, 22, 24, 26, 35, 37] (by kernel_rfl) ?_
      refine wc_ld (b := b5) (off := 9) (some 38) 22 (.int .u64 ((mwW b).getD 9 0)) (by kernel_rfl) (Ld.ent1 H 0 rfl (by kernel_rfl) (iv_get (by have h : (mwW b).length = _ := hf4; omega))) ?_
      refine wc_run (T' := [(2, .pointer (some ⟨b1, 0, none⟩)), (4, .pointer (some ⟨b5, 0, none⟩)), (18, .int .u8 (IntKind.u8.wrap ((mwW b).getD 0 0))), (20, .int .u64 ((mwW b).getD 1 0)), (22, .int .u64 ((mwW b).getD 2 0)), (24, .int .u64 ((mwW b).getD 3 0)), (26, .int .u64 ((mwW b).getD 4 0)), (35, .agg #[.int .u64 ((mwW b).getD 5 0), .int .u64 ((mwW b).getD 6 0), .int .u64 ((mwW b).getD 7 0), .int .u64 ((mwW b).getD 8 0)]), (38, .int .u64 ((mwW b).getD 9 0)), (39, .pointer (some ⟨b5, 10, none⟩))]) (L2 := (ob [24, 25, 26, 27, 28, 29] (ob [20] (ol [30, 31, 32, 33]) (ol [32, 30, 31, 33])) (ol [32, 20, 30, 31, 33]))) 1 [2, 4, 18, 20, 22, 24, 26, 35, 38, 39] (by kernel_rfl) ?_
      refine wc_ld (b := b5) (off := 10) (some 40) 22 (.int .u64 ((mwW b).getD 10 0)) (by kernel_rfl) (Ld.ent1 H 0 rfl (by kernel_rfl) (iv_get (by have h : (mwW b).length = _ := hf4; omega))) ?_
      refine wc_run (T' := [(2, .pointer (some ⟨b1, 0, none⟩)), (4, .pointer (some ⟨b5, 0, none⟩)), (18, .int .u8 (IntKind.u8.wrap ((mwW b).getD 0 0))), (20, .int .u64 ((mwW b).getD 1 0)), (22, .int .u64 ((mwW b).getD 2 0)), (24, .int .u64 ((mwW b).getD 3 0)), (26, .int .u64 ((mwW b).getD 4 0)), (35, .agg #[.int .u64 ((mwW b).getD 5 0), .int .u64 ((mwW b).getD 6 0), .int .u64 ((mwW b).getD 7 0), .int .u64 ((mwW b).getD 8 0)]), (38, .int .u64 ((mwW b).getD 9 0)), (40, .int .u64 ((mwW b).getD 10 0)), (41, .pointer (some ⟨b5, 11, none⟩))]) (L2 := (ob [26, 27, 28, 29] (ob [20] (ol [30, 31, 32, 33]) (ol [32, 30, 31, 33])) (ol [32, 20, 30, 31, 33]))) 1 [2, 4, 18, 20, 22, 24, 26, 35, 38, 40, 41] (by kernel_rfl) ?_
      refine wc_ld (b := b5) (off := 11) (some 42) 22 (.int .u64 ((mwW b).getD 11 0)) (by kernel_rfl) (Ld.ent1 H 0 rfl (by kernel_rfl) (iv_get (by have h : (mwW b).length = _ := hf4; omega))) ?_
      refine wc_run (T' := [(2, .pointer (some ⟨b1, 0, none⟩)), (4, .pointer (some ⟨b5, 0, none⟩)), (18, .int .u8 (IntKind.u8.wrap ((mwW b).getD 0 0))), (20, .int .u64 ((mwW b).getD 1 0)), (22, .int .u64 ((mwW b).getD 2 0)), (24, .int .u64 ((mwW b).getD 3 0)), (26, .int .u64 ((mwW b).getD 4 0)), (35, .agg #[.int .u64 ((mwW b).getD 5 0), .int .u64 ((mwW b).getD 6 0), .int .u64 ((mwW b).getD 7 0), .int .u64 ((mwW b).getD 8 0)]), (38, .int .u64 ((mwW b).getD 9 0)), (40, .int .u64 ((mwW b).getD 10 0)), (42, .int .u64 ((mwW b).getD 11 0)), (43, .pointer (some ⟨b5, 12, none⟩))]) (L2 := (ob [28, 29] (ob [20] (ol [30, 31, 32, 33]) (ol [32, 30, 31, 33])) (ol [32, 20, 30, 31, 33]))) 1 [2, 4, 18, 20, 22, 24, 26, 35, 38, 40, 42, 43] (by kernel_rfl) ?_
      refine wc_ld (b := b5) (off := 12) (some 44) 22 (.int .u64 ((mwW b).getD 12 0)) (by kernel_rfl) (Ld.ent1 H 0 rfl (by kernel_rfl) (iv_get (by have h : (mwW b).length = _ := hf4; omega))) ?_
      refine wc_run (T' := [(2, .pointer (some ⟨b1, 0, none⟩)), (4, .pointer (some ⟨b5, 0, none⟩)), (18, .int .u8 (IntKind.u8.wrap ((mwW b).getD 0 0))), (20, .int .u64 ((mwW b).getD 1 0)), (22, .int .u64 ((mwW b).getD 2 0)), (24, .int .u64 ((mwW b).getD 3 0)), (26, .int .u64 ((mwW b).getD 4 0)), (35, .agg #[.int .u64 ((mwW b).getD 5 0), .int .u64 ((mwW b).getD 6 0), .int .u64 ((mwW b).getD 7 0), .int .u64 ((mwW b).getD 8 0)]), (45, .agg #[.int .u64 ((mwW b).getD 9 0), .int .u64 ((mwW b).getD 10 0), .int .u64 ((mwW b).getD 11 0), .int .u64 ((mwW b).getD 12 0)])]) (L2 := (ob [] (ob [20] (ol [30, 31, 32, 33]) (ol [32, 30, 31, 33])) (ol [32, 20, 30, 31, 33]))) 1 [2, 4, 18, 20, 22, 24, 26, 35, 45] (by kernel_rfl) ?_
      refine wc_br rfl ?_ ?_
      · refine wc_call (some 36) (by kernel_rfl) (proctorref01_From w19 ([(mwW b).getD 5 0, (mwW b).getD 6 0, (mwW b).getD 7 0, (mwW b).getD 8 0]) (by first | with_reducible assumption | omega | (simp_all; done))) ?_
        rintro _ w20 ⟨rfl, H1, hf21⟩
        refine ⟨_, rfl, fun _ => H1.keep, ?_⟩
        replace H := H.call H1
        simp only [List.nil_append] at H
        refine wc_br rfl ?_ ?_
        · refine wc_call (some 46) (by kernel_rfl) (proctorref01_From w20 ([(mwW b).getD 9 0, (mwW b).getD 10 0, (mwW b).getD 11 0, (mwW b).getD 12 0]) (by first | with_reducible assumption | omega | (simp_all; done))) ?_
          rintro _ w22 ⟨rfl, H1, hf23⟩
          refine ⟨_, rfl, fun _ => H1.keep, ?_⟩
          replace H := H.call H1
          simp only [List.nil_append] at H
          refine wc_run (T' := [(2, .pointer (some ⟨b1, 0, none⟩)), (4, .pointer (some ⟨b5, 0, none⟩)), (47, .agg ([.int .u8 (IntKind.u8.wrap ((mwW b).getD 0 0)), .int .u64 ((mwW b).getD 1 0), .int .u64 ((mwW b).getD 2 0), .int .u64 ((mwW b).getD 3 0), .int .u64 ((mwW b).getD 4 0)] ++ ((iv .u8 (frF 32 32 ([(mwW b).getD 5 0, (mwW b).getD 6 0, (mwW b).getD 7 0, (mwW b).getD 8 0]))) ++ (iv .u8 (frF 32 32 ([(mwW b).getD 9 0, (mwW b).getD 10 0, (mwW b).getD 11 0, (mwW b).getD 12 0])))) : List Value).toArray)]) (L2 := (ol [32, 33])) 1 [2, 4, 47] (by kernel_rfl) ?_
          refine wc_new H (some 6) (row ([.int .u8 0] ++ ((iv .u64 (List.replicate 4 0)) ++ (iv .u8 (List.replicate 64 0)))) 49) (fun r => .pointer (some ⟨r, 0, none⟩)) (by kernel_rfl) (fun b24 w25 H => ?_)
          refine wc_st (b := b24) (off := 0) (Tb := 49) (vs := ([.int .u8 (IntKind.u8.wrap ((mwW b).getD 0 0)), .int .u64 ((mwW b).getD 1 0), .int .u64 ((mwW b).getD 2 0), .int .u64 ((mwW b).getD 3 0), .int .u64 ((mwW b).getD 4 0)] ++ ((iv .u8 (frF 32 32 ([(mwW b).getD 5 0, (mwW b).getD 6 0, (mwW b).getD 7 0, (mwW b).getD 8 0]))) ++ (iv .u8 (frF 32 32 ([(mwW b).getD 9 0, (mwW b).getD 10 0, (mwW b).getD 11 0, (mwW b).getD 12 0])))))) (cs' := ([.int .u8 (IntKind.u8.wrap ((mwW b).getD 0 0)), .int .u64 ((mwW b).getD 1 0), .int .u64 ((mwW b).getD 2 0), .int .u64 ((mwW b).getD 3 0), .int .u64 ((mwW b).getD 4 0)] ++ ((iv .u8 (frF 32 32 ([(mwW b).getD 5 0, (mwW b).getD 6 0, (mwW b).getD 7 0, (mwW b).getD 8 0]))) ++ (iv .u8 (frF 32 32 ([(mwW b).getD 9 0, (mwW b).getD 10 0, (mwW b).getD 11 0, (mwW b).getD 12 0])))))) H 0 49 (.agg ([.int .u8 (IntKind.u8.wrap ((mwW b).getD 0 0)), .int .u64 ((mwW b).getD 1 0), .int .u64 ((mwW b).getD 2 0), .int .u64 ((mwW b).getD 3 0), .int .u64 ((mwW b).getD 4 0)] ++ ((iv .u8 (frF 32 32 ([(mwW b).getD 5 0, (mwW b).getD 6 0, (mwW b).getD 7 0, (mwW b).getD 8 0]))) ++ (iv .u8 (frF 32 32 ([(mwW b).getD 9 0, (mwW b).getD 10 0, (mwW b).getD 11 0, (mwW b).getD 12 0])))) : List Value).toArray) 69 (by kernel_rfl) rfl rfl (by exact (lenA (rfl : ([.int .u8 (IntKind.u8.wrap ((mwW b).getD 0 0)), .int .u64 ((mwW b).getD 1 0), .int .u64 ((mwW b).getD 2 0), .int .u64 ((mwW b).getD 3 0), .int .u64 ((mwW b).getD 4 0)] : List Value).length = 5) (lenA ((iv_length .u8 (frF 32 32 ([(mwW b).getD 5 0, (mwW b).getD 6 0, (mwW b).getD 7 0, (mwW b).getD 8 0]))).trans hf21) ((iv_length .u8 (frF 32 32 ([(mwW b).getD 9 0, (mwW b).getD 10 0, (mwW b).getD 11 0, (mwW b).getD 12 0]))).trans hf23)))) (by have h : ([.int .u8 0] ++ ((iv .u64 (List.replicate 4 0)) ++ (iv .u8 (List.replicate 64 0))) : List Value).length = 69 := (lenA (rfl : ([.int .u8 0] : List Value).length = 1) (lenA ((iv_length .u64 (List.replicate 4 0)).trans List.length_replicate) ((iv_length .u8 (List.replicate 64 0)).trans List.length_replicate))); omega) (by exact (flA (by simp [Value.oneCell']) (flA (iv_flat _ _) (iv_flat _ _)))) (by exact blit_all _ _ ((show ([.int .u8 (IntKind.u8.wrap ((mwW b).getD 0 0)), .int .u64 ((mwW b).getD 1 0), .int .u64 ((mwW b).getD 2 0), .int .u64 ((mwW b).getD 3 0), .int .u64 ((mwW b).getD 4 0)] ++ ((iv .u8 (frF 32 32 ([(mwW b).getD 5 0, (mwW b).getD 6 0, (mwW b).getD 7 0, (mwW b).getD 8 0]))) ++ (iv .u8 (frF 32 32 ([(mwW b).getD 9 0, (mwW b).getD 10 0, (mwW b).getD 11 0, (mwW b).getD 12 0])))) : List Value).length = 69 from (lenA (rfl : ([.int .u8 (IntKind.u8.wrap ((mwW b).getD 0 0)), .int .u64 ((mwW b).getD 1 0), .int .u64 ((mwW b).getD 2 0), .int .u64 ((mwW b).getD 3 0), .int .u64 ((mwW b).getD 4 0)] : List Value).length = 5) (lenA ((iv_length .u8 (frF 32 32 ([(mwW b).getD 5 0, (mwW b).getD 6 0, (mwW b).getD 7 0, (mwW b).getD 8 0]))).trans hf21) ((iv_length .u8 (frF 32 32 ([(mwW b).getD 9 0, (mwW b).getD 10 0, (mwW b).getD 11 0, (mwW b).getD 12 0]))).trans hf23)))).trans (show ([.int .u8 0] ++ ((iv .u64 (List.replicate 4 0)) ++ (iv .u8 (List.replicate 64 0))) : List Value).length = 69 from (lenA (rfl : ([.int .u8 0] : List Value).length = 1) (lenA ((iv_length .u64 (List.replicate 4 0)).trans List.length_replicate) ((iv_length .u8 (List.replicate 64 0)).trans List.length_replicate)))).symm)) (fun w26 H => ?_)
          dsimp only [List.set] at H
          refine wc_nil rfl ?_
          refine n_np ?_
          exact cut_end (b24) [2, 4, 6] (by kernel_rfl) ⟨H, hf21, hf23⟩
        · refine wc_new H (some 6) (row ([.int .u8 0] ++ ((iv .u64 (List.replicate 4 0)) ++ (iv .u8 (List.replicate 64 0)))) 49) (fun r => .pointer (some ⟨r, 0, none⟩)) (by kernel_rfl) (fun b27 w28 H => ?_)
          refine wc_call (some 46) (by kernel_rfl) (proctorref01_From w28 ([(mwW b).getD 9 0, (mwW b).getD 10 0, (mwW b).getD 11 0, (mwW b).getD 12 0]) (by first | with_reducible assumption | omega | (simp_all; done))) ?_
          rintro _ w29 ⟨rfl, H1, hf30⟩
          refine ⟨_, rfl, fun _ => H1.keep, ?_⟩
          replace H := H.call H1
          simp only [List.nil_append] at H
          refine wc_run (T' := [(2, .pointer (some ⟨b1, 0, none⟩)), (4, .pointer (some ⟨b5, 0, none⟩)), (6, .pointer (some ⟨b27, 0, none⟩)), (47, .agg ([.int .u8 (IntKind.u8.wrap ((mwW b).getD 0 0)), .int .u64 ((mwW b).getD 1 0), .int .u64 ((mwW b).getD 2 0), .int .u64 ((mwW b).getD 3 0), .int .u64 ((mwW b).getD 4 0)] ++ ((iv .u8 (frF 32 32 ([(mwW b).getD 5 0, (mwW b).getD 6 0, (mwW b).getD 7 0, (mwW b).getD 8 0]))) ++ (iv .u8 (frF 32 32 ([(mwW b).getD 9 0, (mwW b).getD 10 0, (mwW b).getD 11 0, (mwW b).getD 12 0])))) : List Value).toArray)]) (L2 := (ol [33])) 1 [2, 4, 6, 47] (by kernel_rfl) ?_
          refine wc_st (b := b27) (off := 0) (Tb := 49) (vs := ([.int .u8 (IntKind.u8.wrap ((mwW b).getD 0 0)), .int .u64 ((mwW b).getD 1 0), .int .u64 ((mwW b).getD 2 0), .int .u64 ((mwW b).getD 3 0), .int .u64 ((mwW b).getD 4 0)] ++ ((iv .u8 (frF 32 32 ([(mwW b).getD 5 0, (mwW b).getD 6 0, (mwW b).getD 7 0, (mwW b).getD 8 0]))) ++ (iv .u8 (frF 32 32 ([(mwW b).getD 9 0, (mwW b).getD 10 0, (mwW b).getD 11 0, (mwW b).getD 12 0])))))) (cs' := ([.int .u8 (IntKind.u8.wrap ((mwW b).getD 0 0)), .int .u64 ((mwW b).getD 1 0), .int .u64 ((mwW b).getD 2 0), .int .u64 ((mwW b).getD 3 0), .int .u64 ((mwW b).getD 4 0)] ++ ((iv .u8 (frF 32 32 ([(mwW b).getD 5 0, (mwW b).getD 6 0, (mwW b).getD 7 0, (mwW b).getD 8 0]))) ++ (iv .u8 (frF 32 32 ([(mwW b).getD 9 0, (mwW b).getD 10 0, (mwW b).getD 11 0, (mwW b).getD 12 0])))))) H 0 49 (.agg ([.int .u8 (IntKind.u8.wrap ((mwW b).getD 0 0)), .int .u64 ((mwW b).getD 1 0), .int .u64 ((mwW b).getD 2 0), .int .u64 ((mwW b).getD 3 0), .int .u64 ((mwW b).getD 4 0)] ++ ((iv .u8 (frF 32 32 ([(mwW b).getD 5 0, (mwW b).getD 6 0, (mwW b).getD 7 0, (mwW b).getD 8 0]))) ++ (iv .u8 (frF 32 32 ([(mwW b).getD 9 0, (mwW b).getD 10 0, (mwW b).getD 11 0, (mwW b).getD 12 0])))) : List Value).toArray) 69 (by kernel_rfl) rfl rfl (by exact (lenA (rfl : ([.int .u8 (IntKind.u8.wrap ((mwW b).getD 0 0)), .int .u64 ((mwW b).getD 1 0), .int .u64 ((mwW b).getD 2 0), .int .u64 ((mwW b).getD 3 0), .int .u64 ((mwW b).getD 4 0)] : List Value).length = 5) (lenA ((iv_length .u8 (frF 32 32 ([(mwW b).getD 5 0, (mwW b).getD 6 0, (mwW b).getD 7 0, (mwW b).getD 8 0]))).trans hf21) ((iv_length .u8 (frF 32 32 ([(mwW b).getD 9 0, (mwW b).getD 10 0, (mwW b).getD 11 0, (mwW b).getD 12 0]))).trans hf30)))) (by have h : ([.int .u8 0] ++ ((iv .u64 (List.replicate 4 0)) ++ (iv .u8 (List.replicate 64 0))) : List Value).length = 69 := (lenA (rfl : ([.int .u8 0] : List Value).length = 1) (lenA ((iv_length .u64 (List.replicate 4 0)).trans List.length_replicate) ((iv_length .u8 (List.replicate 64 0)).trans List.length_replicate))); omega) (by exact (flA (by simp [Value.oneCell']) (flA (iv_flat _ _) (iv_flat _ _)))) (by exact blit_all _ _ ((show ([.int .u8 (IntKind.u8.wrap ((mwW b).getD 0 0)), .int .u64 ((mwW b).getD 1 0), .int .u64 ((mwW b).getD 2 0), .int .u64 ((mwW b).getD 3 0), .int .u64 ((mwW b).getD 4 0)] ++ ((iv .u8 (frF 32 32 ([(mwW b).getD 5 0, (mwW b).getD 6 0, (mwW b).getD 7 0, (mwW b).getD 8 0]))) ++ (iv .u8 (frF 32 32 ([(mwW b).getD 9 0, (mwW b).getD 10 0, (mwW b).getD 11 0, (mwW b).getD 12 0])))) : List Value).length = 69 from (lenA (rfl : ([.int .u8 (IntKind.u8.wrap ((mwW b).getD 0 0)), .int .u64 ((mwW b).getD 1 0), .int .u64 ((mwW b).getD 2 0), .int .u64 ((mwW b).getD 3 0), .int .u64 ((mwW b).getD 4 0)] : List Value).length = 5) (lenA ((iv_length .u8 (frF 32 32 ([(mwW b).getD 5 0, (mwW b).getD 6 0, (mwW b).getD 7 0, (mwW b).getD 8 0]))).trans hf21) ((iv_length .u8 (frF 32 32 ([(mwW b).getD 9 0, (mwW b).getD 10 0, (mwW b).getD 11 0, (mwW b).getD 12 0]))).trans hf30)))).trans (show ([.int .u8 0] ++ ((iv .u64 (List.replicate 4 0)) ++ (iv .u8 (List.replicate 64 0))) : List Value).length = 69 from (lenA (rfl : ([.int .u8 0] : List Value).length = 1) (lenA ((iv_length .u64 (List.replicate 4 0)).trans List.length_replicate) ((iv_length .u8 (List.replicate 64 0)).trans List.length_replicate)))).symm)) (fun w31 H => ?_)
          dsimp only [List.set] at H
          refine wc_nil rfl ?_
          refine n_np ?_
          exact cut_end (b27) [2, 4, 6] (by kernel_rfl) ⟨H, hf21, hf30⟩
      · refine wc_new H (some 6) (row ([.int .u8 0] ++ ((iv .u64 (List.replicate 4 0)) ++ (iv .u8 (List.replicate 64 0)))) 49) (fun r => .pointer (some ⟨r, 0, none⟩)) (by kernel_rfl) (fun b32 w33 H => ?_)
        refine wc_call (some 36) (by kernel_rfl) (proctorref01_From w33 ([(mwW b).getD 5 0, (mwW b).getD 6 0, (mwW b).getD 7 0, (mwW b).getD 8 0]) (by first | with_reducible assumption | omega | (simp_all; done))) ?_
        rintro _ w34 ⟨rfl, H1, hf35⟩
        refine ⟨_, rfl, fun _ => H1.keep, ?_⟩
        replace H := H.call H1
        simp only [List.nil_append] at H
        refine wc_call (some 46) (by kernel_rfl) (proctorref01_From w34 ([(mwW b).getD 9 0, (mwW b).getD 10 0, (mwW b).getD 11 0, (mwW b).getD 12 0]) (by first | with_reducible assumption | omega | (simp_all; done))) ?_
        rintro _ w36 ⟨rfl, H1, hf37⟩
        refine ⟨_, rfl, fun _ => H1.keep, ?_⟩
        replace H := H.call H1
        simp only [List.nil_append] at H
        refine wc_run (T' := [(2, .pointer (some ⟨b1, 0, none⟩)), (4, .pointer (some ⟨b5, 0, none⟩)), (6, .pointer (some ⟨b32, 0, none⟩)), (47, .agg ([.int .u8 (IntKind.u8.wrap ((mwW b).getD 0 0)), .int .u64 ((mwW b).getD 1 0), .int .u64 ((mwW b).getD 2 0), .int .u64 ((mwW b).getD 3 0), .int .u64 ((mwW b).getD 4 0)] ++ ((iv .u8 (frF 32 32 ([(mwW b).getD 5 0, (mwW b).getD 6 0, (mwW b).getD 7 0, (mwW b).getD 8 0]))) ++ (iv .u8 (frF 32 32 ([(mwW b).getD 9 0, (mwW b).getD 10 0, (mwW b).getD 11 0, (mwW b).getD 12 0])))) : List Value).toArray)]) (L2 := (ol [33])) 1 [2, 4, 6, 47] (by kernel_rfl) ?_
        refine wc_st (b := b32) (off := 0) (Tb := 49) (vs := ([.int .u8 (IntKind.u8.wrap ((mwW b).getD 0 0)), .int .u64 ((mwW b).getD 1 0), .int .u64 ((mwW b).getD 2 0), .int .u64 ((mwW b).getD 3 0), .int .u64 ((mwW b).getD 4 0)] ++ ((iv .u8 (frF 32 32 ([(mwW b).getD 5 0, (mwW b).getD 6 0, (mwW b).getD 7 0, (mwW b).getD 8 0]))) ++ (iv .u8 (frF 32 32 ([(mwW b).getD 9 0, (mwW b).getD 10 0, (mwW b).getD 11 0, (mwW b).getD 12 0])))))) (cs' := ([.int .u8 (IntKind.u8.wrap ((mwW b).getD 0 0)), .int .u64 ((mwW b).getD 1 0), .int .u64 ((mwW b).getD 2 0), .int .u64 ((mwW b).getD 3 0), .int .u64 ((mwW b).getD 4 0)] ++ ((iv .u8 (frF 32 32 ([(mwW b).getD 5 0, (mwW b).getD 6 0, (mwW b).getD 7 0, (mwW b).getD 8 0]))) ++ (iv .u8 (frF 32 32 ([(mwW b).getD 9 0, (mwW b).getD 10 0, (mwW b).getD 11 0, (mwW b).getD 12 0])))))) H 0 49 (.agg ([.int .u8 (IntKind.u8.wrap ((mwW b).getD 0 0)), .int .u64 ((mwW b).getD 1 0), .int .u64 ((mwW b).getD 2 0), .int .u64 ((mwW b).getD 3 0), .int .u64 ((mwW b).getD 4 0)] ++ ((iv .u8 (frF 32 32 ([(mwW b).getD 5 0, (mwW b).getD 6 0, (mwW b).getD 7 0, (mwW b).getD 8 0]))) ++ (iv .u8 (frF 32 32 ([(mwW b).getD 9 0, (mwW b).getD 10 0, (mwW b).getD 11 0, (mwW b).getD 12 0])))) : List Value).toArray) 69 (by kernel_rfl) rfl rfl (by exact (lenA (rfl : ([.int .u8 (IntKind.u8.wrap ((mwW b).getD 0 0)), .int .u64 ((mwW b).getD 1 0), .int .u64 ((mwW b).getD 2 0), .int .u64 ((mwW b).getD 3 0), .int .u64 ((mwW b).getD 4 0)] : List Value).length = 5) (lenA ((iv_length .u8 (frF 32 32 ([(mwW b).getD 5 0, (mwW b).getD 6 0, (mwW b).getD 7 0, (mwW b).getD 8 0]))).trans hf35) ((iv_length .u8 (frF 32 32 ([(mwW b).getD 9 0, (mwW b).getD 10 0, (mwW b).getD 11 0, (mwW b).getD 12 0]))).trans hf37)))) (by have h : ([.int .u8 0] ++ ((iv .u64 (List.replicate 4 0)) ++ (iv .u8 (List.replicate 64 0))) : List Value).length = 69 := (lenA (rfl : ([.int .u8 0] : List Value).length = 1) (lenA ((iv_length .u64 (List.replicate 4 0)).trans List.length_replicate) ((iv_length .u8 (List.replicate 64 0)).trans List.length_replicate))); omega) (by exact (flA (by simp [Value.oneCell']) (flA (iv_flat _ _) (iv_flat _ _)))) (by exact blit_all _ _ ((show ([.int .u8 (IntKind.u8.wrap ((mwW b).getD 0 0)), .int .u64 ((mwW b).getD 1 0), .int .u64 ((mwW b).getD 2 0), .int .u64 ((mwW b).getD 3 0), .int .u64 ((mwW b).getD 4 0)] ++ ((iv .u8 (frF 32 32 ([(mwW b).getD 5 0, (mwW b).getD 6 0, (mwW b).getD 7 0, (mwW b).getD 8 0]))) ++ (iv .u8 (frF 32 32 ([(mwW b).getD 9 0, (mwW b).getD 10 0, (mwW b).getD 11 0, (mwW b).getD 12 0])))) : List Value).length = 69 from (lenA (rfl : ([.int .u8 (IntKind.u8.wrap ((mwW b).getD 0 0)), .int .u64 ((mwW b).getD 1 0), .int .u64 ((mwW b).getD 2 0), .int .u64 ((mwW b).getD 3 0), .int .u64 ((mwW b).getD 4 0)] : List Value).length = 5) (lenA ((iv_length .u8 (frF 32 32 ([(mwW b).getD 5 0, (mwW b).getD 6 0, (mwW b).getD 7 0, (mwW b).getD 8 0]))).trans hf35) ((iv_length .u8 (frF 32 32 ([(mwW b).getD 9 0, (mwW b).getD 10 0, (mwW b).getD 11 0, (mwW b).getD 12 0]))).trans hf37)))).trans (show ([.int .u8 0] ++ ((iv .u64 (List.replicate 4 0)) ++ (iv .u8 (List.replicate 64 0))) : List Value).length = 69 from (lenA (rfl : ([.int .u8 0] : List Value).length = 1) (lenA ((iv_length .u64 (List.replicate 4 0)).trans List.length_replicate) ((iv_length .u8 (List.replicate 64 0)).trans List.length_replicate)))).symm)) (fun w38 H => ?_)
        dsimp only [List.set] at H
        refine wc_nil rfl ?_
        refine n_np ?_
        exact cut_end (b32) [2, 4, 6] (by kernel_rfl) ⟨H, hf35, hf37⟩
    rintro bc18 w39 ⟨H, hf40, hf41⟩
    try dsimp only at H hf40 hf41
    refine wn_pick (T' := [(2, .pointer (some ⟨b1, 0, none⟩)), (4, .pointer (some ⟨b5, 0, none⟩)), (6, .pointer (some ⟨bc18, 0, none⟩))]) [2, 4, 6] (by kernel_rfl) ?_
    refine wn_seq (by kernel_rfl) ?_
    refine wn_seq (by kernel_rfl) ?_
    refine wn_reg 8 (by kernel_rfl) ?_
    refine wc_run (T' := [(2, .pointer (some ⟨b1, 0, none⟩)), (6, .pointer (some ⟨bc18, 0, none⟩)), (48, .pointer (some ⟨b5, 0, none⟩))]) (L2 := (rng 1 7)) 1 [2, 6, 48] (by kernel_rfl) ?_
    refine wc_ld (b := b5) (off := 0) (some 49) 22 (.int .u64 ((mwW b).getD 0 0)) (by kernel_rfl) (Ld.ent1 H 1 rfl (by kernel_rfl) (iv_get (by have h : (mwW b).length = _ := hf4; omega))) ?_
    refine wc_run (T' := [(2, .pointer (some ⟨b1, 0, none⟩)), (6, .pointer (some ⟨bc18, 0, none⟩)), (51, .bool (decide (((mwW b).getD 0 0) > (3 : Int))))]) (L2 := (rng 4 4)) 2 [2, 6, 51] (by kernel_rfl) ?_
    by_cases hg42 : ((mwW b).getD 0 0) > (3 : Int)
    · rw [decide_eq_true hg42]
      refine wc_run (T' := [(2, .pointer (some ⟨b1, 0, none⟩)), (6, .pointer (some ⟨bc18, 0, none⟩)), (51, .bool true), (52, .tuple #[])]) (L2 := (rng 5 3)) 1 [2, 6, 51, 52] (by kernel_rfl) ?_
      refine wc_skip (some 53) (by kernel_rfl) ?_
      refine wc_run (T' := [(2, .pointer (some ⟨b1, 0, none⟩)), (6, .pointer (some ⟨bc18, 0, none⟩)), (55, .bool true)]) (L2 := (rng 8 0)) 2 [2, 6, 55] (by kernel_rfl) ?_
      refine wc_nil rfl ?_
      refine n_sq ?_
      refine wn_condT (.tmp 55) (by kernel_rfl) rfl ?_
      refine wn_seq (by kernel_rfl) ?_
      refine wn_reg 3 (by kernel_rfl) ?_
      refine wc_run (T' := [(2, .pointer (some ⟨b1, 0, none⟩)), (56, .agg ([.int .u8 0] ++ ((iv .u64 (List.replicate 4 0)) ++ (iv .u8 (List.replicate 64 0))) : List Value).toArray)]) (L2 := (rng 1 2)) 1 [2, 56] (by kernel_rfl) ?_
      refine wc_st (b := b1) (off := 0) (Tb := 49) (vs := ([.int .u8 0] ++ ((iv .u64 (List.replicate 4 0)) ++ (iv .u8 (List.replicate 64 0))))) (cs' := ([.int .u8 0] ++ ((iv .u64 (List.replicate 4 0)) ++ (iv .u8 (List.replicate 64 0))))) H 2 49 (.agg ([.int .u8 0] ++ ((iv .u64 (List.replicate 4 0)) ++ (iv .u8 (List.replicate 64 0))) : List Value).toArray) 69 (by kernel_rfl) rfl rfl (by exact (lenA (rfl : ([.int .u8 0] : List Value).length = 1) (lenA ((iv_length .u64 (List.replicate 4 0)).trans List.length_replicate) ((iv_length .u8 (List.replicate 64 0)).trans List.length_replicate)))) (by have h : ([.int .u8 0] ++ ((iv .u64 (List.replicate 4 0)) ++ (iv .u8 (List.replicate 64 0))) : List Value).length = 69 := (lenA (rfl : ([.int .u8 0] : List Value).length = 1) (lenA ((iv_length .u64 (List.replicate 4 0)).trans List.length_replicate) ((iv_length .u8 (List.replicate 64 0)).trans List.length_replicate))); omega) (by exact (flA (by simp [Value.oneCell']) (flA (iv_flat _ _) (iv_flat _ _)))) (by exact blit_all _ _ ((show ([.int .u8 0] ++ ((iv .u64 (List.replicate 4 0)) ++ (iv .u8 (List.replicate 64 0))) : List Value).length = 69 from (lenA (rfl : ([.int .u8 0] : List Value).length = 1) (lenA ((iv_length .u64 (List.replicate 4 0)).trans List.length_replicate) ((iv_length .u8 (List.replicate 64 0)).trans List.length_replicate)))).trans (show ([.int .u8 0] ++ ((iv .u64 (List.replicate 4 0)) ++ (iv .u8 (List.replicate 64 0))) : List Value).length = 69 from (lenA (rfl : ([.int .u8 0] : List Value).length = 1) (lenA ((iv_length .u64 (List.replicate 4 0)).trans List.length_replicate) ((iv_length .u8 (List.replicate 64 0)).trans List.length_replicate)))).symm)) (fun w43 H => ?_)
      dsimp only [List.set] at H
      refine wc_run (T' := [(2, .pointer (some ⟨b1, 0, none⟩)), (3, .int .i64 8)]) (L2 := (rng 3 0)) 1 [2, 3] (by kernel_rfl) ?_
      refine wc_nil rfl ?_
      refine n_sq ?_
      refine wn_ret (by kernel_rfl) ?_
      refine r_sq ?_
      refine ret2 _ (Or.inr rfl) Try.results29 ⟨_, _, rfl, Ld.entW H 2 (n := 69) rfl (by kernel_rfl) (by exact (lenA (rfl : ([.int .u8 0] : List Value).length = 1) (lenA ((iv_length .u64 (List.replicate 4 0)).trans List.length_replicate) ((iv_length .u8 (List.replicate 64 0)).trans List.length_replicate))))⟩ rfl ?_
      have he44 : (rdM b).k = (0 : Int) := by
        rw [hF (hB hg42)]
      have he45 : (rdM b).f = (0 : Int) := by
        rw [hF (hB hg42)]
      have he46 : (rdM b).t = (0 : Int) := by
        rw [hF (hB hg42)]
      have he47 : (rdM b).a = (0 : Int) := by
        rw [hF (hB hg42)]
      have he48 : (rdM b).n = (0 : Int) := by
        rw [hF (hB hg42)]
      have he49 : (rdM b).x = (List.replicate 32 0) := by
        rw [hF (hB hg42)]
      have he50 : (rdM b).y = (List.replicate 32 0) := by
        rw [hF (hB hg42)]
      have he51 : rdE b = (8 : Int) := by
        rw [hEF (hB hg42)]; rw [if_pos hc8]
      exact ⟨by first | (rw [he44, he45, he46, he47, he48, he49, he50, he51]; done) | (rw [he44, he45, he46, he47, he48, he49, he50, he51]; rfl), H.nil, by exact rdM_x b, by exact rdM_y b⟩
    · rw [decide_eq_false hg42]
      refine wc_ld (b := bc18) (off := 0) (some 52) 49 (.agg ([.int .u8 (IntKind.u8.wrap ((mwW b).getD 0 0)), .int .u64 ((mwW b).getD 1 0), .int .u64 ((mwW b).getD 2 0), .int .u64 ((mwW b).getD 3 0), .int .u64 ((mwW b).getD 4 0)] ++ ((iv .u8 (frF 32 32 ([(mwW b).getD 5 0, (mwW b).getD 6 0, (mwW b).getD 7 0, (mwW b).getD 8 0]))) ++ (iv .u8 (frF 32 32 ([(mwW b).getD 9 0, (mwW b).getD 10 0, (mwW b).getD 11 0, (mwW b).getD 12 0])))) : List Value).toArray) (by kernel_rfl) (Ld.entW H 0 (n := 69) rfl (by kernel_rfl) (by exact (lenA (rfl : ([.int .u8 (IntKind.u8.wrap ((mwW b).getD 0 0)), .int .u64 ((mwW b).getD 1 0), .int .u64 ((mwW b).getD 2 0), .int .u64 ((mwW b).getD 3 0), .int .u64 ((mwW b).getD 4 0)] : List Value).length = 5) (lenA ((iv_length .u8 (frF 32 32 ([(mwW b).getD 5 0, (mwW b).getD 6 0, (mwW b).getD 7 0, (mwW b).getD 8 0]))).trans hf40) ((iv_length .u8 (frF 32 32 ([(mwW b).getD 9 0, (mwW b).getD 10 0, (mwW b).getD 11 0, (mwW b).getD 12 0]))).trans hf41))))) ?_
      refine wc_call (some 53) (by kernel_rfl) (proctorref07_May w39 (IntKind.u8.wrap ((mwW b).getD 0 0)) ((mwW b).getD 1 0) ((mwW b).getD 2 0) ((mwW b).getD 3 0) ((mwW b).getD 4 0) (frF 32 32 ([(mwW b).getD 5 0, (mwW b).getD 6 0, (mwW b).getD 7 0, (mwW b).getD 8 0])) (frF 32 32 ([(mwW b).getD 9 0, (mwW b).getD 10 0, (mwW b).getD 11 0, (mwW b).getD 12 0])) hf40 hf41 hk8 (hwg 1) (hwg 2) (hwg 3) (hwg 4) hXr hYr) ?_
      rintro _ w52 ⟨rfl, H1⟩
      refine ⟨_, rfl, fun _ => H1.keep, ?_⟩
      replace H := H.call H1
      simp only [List.nil_append] at H
      refine wc_run (T' := [(2, .pointer (some ⟨b1, 0, none⟩)), (6, .pointer (some ⟨bc18, 0, none⟩)), (55, .bool (!(mayM (IntKind.u8.wrap ((mwW b).getD 0 0)) ((mwW b).getD 1 0) ((mwW b).getD 2 0) ((mwW b).getD 3 0) ((mwW b).getD 4 0) (frF 32 32 ([(mwW b).getD 5 0, (mwW b).getD 6 0, (mwW b).getD 7 0, (mwW b).getD 8 0])) (frF 32 32 ([(mwW b).getD 9 0, (mwW b).getD 10 0, (mwW b).getD 11 0, (mwW b).getD 12 0])))))]) (L2 := (rng 8 0)) 2 [2, 6, 55] (by kernel_rfl) ?_
      refine wc_nil rfl ?_
      refine n_sq ?_
      refine wn_cond (.tmp 55) (!(mayM (IntKind.u8.wrap ((mwW b).getD 0 0)) ((mwW b).getD 1 0) ((mwW b).getD 2 0) ((mwW b).getD 3 0) ((mwW b).getD 4 0) (frF 32 32 ([(mwW b).getD 5 0, (mwW b).getD 6 0, (mwW b).getD 7 0, (mwW b).getD 8 0])) (frF 32 32 ([(mwW b).getD 9 0, (mwW b).getD 10 0, (mwW b).getD 11 0, (mwW b).getD 12 0])))) (by kernel_rfl) rfl (fun hc53 => ?_) (fun hc53 => ?_)
      · have hc53 := notT hc53
        refine wn_seq (by kernel_rfl) ?_
        refine wn_reg 3 (by kernel_rfl) ?_
        refine wc_run (T' := [(2, .pointer (some ⟨b1, 0, none⟩)), (56, .agg ([.int .u8 0] ++ ((iv .u64 (List.replicate 4 0)) ++ (iv .u8 (List.replicate 64 0))) : List Value).toArray)]) (L2 := (rng 1 2)) 1 [2, 56] (by kernel_rfl) ?_
        refine wc_st (b := b1) (off := 0) (Tb := 49) (vs := ([.int .u8 0] ++ ((iv .u64 (List.replicate 4 0)) ++ (iv .u8 (List.replicate 64 0))))) (cs' := ([.int .u8 0] ++ ((iv .u64 (List.replicate 4 0)) ++ (iv .u8 (List.replicate 64 0))))) H 2 49 (.agg ([.int .u8 0] ++ ((iv .u64 (List.replicate 4 0)) ++ (iv .u8 (List.replicate 64 0))) : List Value).toArray) 69 (by kernel_rfl) rfl rfl (by exact (lenA (rfl : ([.int .u8 0] : List Value).length = 1) (lenA ((iv_length .u64 (List.replicate 4 0)).trans List.length_replicate) ((iv_length .u8 (List.replicate 64 0)).trans List.length_replicate)))) (by have h : ([.int .u8 0] ++ ((iv .u64 (List.replicate 4 0)) ++ (iv .u8 (List.replicate 64 0))) : List Value).length = 69 := (lenA (rfl : ([.int .u8 0] : List Value).length = 1) (lenA ((iv_length .u64 (List.replicate 4 0)).trans List.length_replicate) ((iv_length .u8 (List.replicate 64 0)).trans List.length_replicate))); omega) (by exact (flA (by simp [Value.oneCell']) (flA (iv_flat _ _) (iv_flat _ _)))) (by exact blit_all _ _ ((show ([.int .u8 0] ++ ((iv .u64 (List.replicate 4 0)) ++ (iv .u8 (List.replicate 64 0))) : List Value).length = 69 from (lenA (rfl : ([.int .u8 0] : List Value).length = 1) (lenA ((iv_length .u64 (List.replicate 4 0)).trans List.length_replicate) ((iv_length .u8 (List.replicate 64 0)).trans List.length_replicate)))).trans (show ([.int .u8 0] ++ ((iv .u64 (List.replicate 4 0)) ++ (iv .u8 (List.replicate 64 0))) : List Value).length = 69 from (lenA (rfl : ([.int .u8 0] : List Value).length = 1) (lenA ((iv_length .u64 (List.replicate 4 0)).trans List.length_replicate) ((iv_length .u8 (List.replicate 64 0)).trans List.length_replicate)))).symm)) (fun w54 H => ?_)
        dsimp only [List.set] at H
        refine wc_run (T' := [(2, .pointer (some ⟨b1, 0, none⟩)), (3, .int .i64 8)]) (L2 := (rng 3 0)) 1 [2, 3] (by kernel_rfl) ?_
        refine wc_nil rfl ?_
        refine n_sq ?_
        refine wn_ret (by kernel_rfl) ?_
        refine r_sq ?_
        refine ret2 _ (Or.inr rfl) Try.results29 ⟨_, _, rfl, Ld.entW H 2 (n := 69) rfl (by kernel_rfl) (by exact (lenA (rfl : ([.int .u8 0] : List Value).length = 1) (lenA ((iv_length .u64 (List.replicate 4 0)).trans List.length_replicate) ((iv_length .u8 (List.replicate 64 0)).trans List.length_replicate))))⟩ rfl ?_
        have he55 : (rdM b).k = (0 : Int) := by
          rw [hF (hC hc53)]
        have he56 : (rdM b).f = (0 : Int) := by
          rw [hF (hC hc53)]
        have he57 : (rdM b).t = (0 : Int) := by
          rw [hF (hC hc53)]
        have he58 : (rdM b).a = (0 : Int) := by
          rw [hF (hC hc53)]
        have he59 : (rdM b).n = (0 : Int) := by
          rw [hF (hC hc53)]
        have he60 : (rdM b).x = (List.replicate 32 0) := by
          rw [hF (hC hc53)]
        have he61 : (rdM b).y = (List.replicate 32 0) := by
          rw [hF (hC hc53)]
        have he62 : rdE b = (8 : Int) := by
          rw [hEF (hC hc53)]; rw [if_pos hc8]
        exact ⟨by first | (rw [he55, he56, he57, he58, he59, he60, he61, he62]; done) | (rw [he55, he56, he57, he58, he59, he60, he61, he62]; rfl), H.nil, by exact rdM_x b, by exact rdM_y b⟩
      · have hc53 := notF hc53
        refine wn_skip (by kernel_rfl) ?_
        refine n_sq ?_
        refine wn_seq (by kernel_rfl) ?_
        refine wn_reg 3 (by kernel_rfl) ?_
        refine wc_ld (b := bc18) (off := 0) (some 57) 49 (.agg ([.int .u8 (IntKind.u8.wrap ((mwW b).getD 0 0)), .int .u64 ((mwW b).getD 1 0), .int .u64 ((mwW b).getD 2 0), .int .u64 ((mwW b).getD 3 0), .int .u64 ((mwW b).getD 4 0)] ++ ((iv .u8 (frF 32 32 ([(mwW b).getD 5 0, (mwW b).getD 6 0, (mwW b).getD 7 0, (mwW b).getD 8 0]))) ++ (iv .u8 (frF 32 32 ([(mwW b).getD 9 0, (mwW b).getD 10 0, (mwW b).getD 11 0, (mwW b).getD 12 0])))) : List Value).toArray) (by kernel_rfl) (Ld.entW H 0 (n := 69) rfl (by kernel_rfl) (by exact (lenA (rfl : ([.int .u8 (IntKind.u8.wrap ((mwW b).getD 0 0)), .int .u64 ((mwW b).getD 1 0), .int .u64 ((mwW b).getD 2 0), .int .u64 ((mwW b).getD 3 0), .int .u64 ((mwW b).getD 4 0)] : List Value).length = 5) (lenA ((iv_length .u8 (frF 32 32 ([(mwW b).getD 5 0, (mwW b).getD 6 0, (mwW b).getD 7 0, (mwW b).getD 8 0]))).trans hf40) ((iv_length .u8 (frF 32 32 ([(mwW b).getD 9 0, (mwW b).getD 10 0, (mwW b).getD 11 0, (mwW b).getD 12 0]))).trans hf41))))) ?_
        refine wc_st (b := b1) (off := 0) (Tb := 49) (vs := ([.int .u8 (IntKind.u8.wrap ((mwW b).getD 0 0)), .int .u64 ((mwW b).getD 1 0), .int .u64 ((mwW b).getD 2 0), .int .u64 ((mwW b).getD 3 0), .int .u64 ((mwW b).getD 4 0)] ++ ((iv .u8 (frF 32 32 ([(mwW b).getD 5 0, (mwW b).getD 6 0, (mwW b).getD 7 0, (mwW b).getD 8 0]))) ++ (iv .u8 (frF 32 32 ([(mwW b).getD 9 0, (mwW b).getD 10 0, (mwW b).getD 11 0, (mwW b).getD 12 0])))))) (cs' := ([.int .u8 (IntKind.u8.wrap ((mwW b).getD 0 0)), .int .u64 ((mwW b).getD 1 0), .int .u64 ((mwW b).getD 2 0), .int .u64 ((mwW b).getD 3 0), .int .u64 ((mwW b).getD 4 0)] ++ ((iv .u8 (frF 32 32 ([(mwW b).getD 5 0, (mwW b).getD 6 0, (mwW b).getD 7 0, (mwW b).getD 8 0]))) ++ (iv .u8 (frF 32 32 ([(mwW b).getD 9 0, (mwW b).getD 10 0, (mwW b).getD 11 0, (mwW b).getD 12 0])))))) H 2 49 (.agg ([.int .u8 (IntKind.u8.wrap ((mwW b).getD 0 0)), .int .u64 ((mwW b).getD 1 0), .int .u64 ((mwW b).getD 2 0), .int .u64 ((mwW b).getD 3 0), .int .u64 ((mwW b).getD 4 0)] ++ ((iv .u8 (frF 32 32 ([(mwW b).getD 5 0, (mwW b).getD 6 0, (mwW b).getD 7 0, (mwW b).getD 8 0]))) ++ (iv .u8 (frF 32 32 ([(mwW b).getD 9 0, (mwW b).getD 10 0, (mwW b).getD 11 0, (mwW b).getD 12 0])))) : List Value).toArray) 69 (by kernel_rfl) rfl rfl (by exact (lenA (rfl : ([.int .u8 (IntKind.u8.wrap ((mwW b).getD 0 0)), .int .u64 ((mwW b).getD 1 0), .int .u64 ((mwW b).getD 2 0), .int .u64 ((mwW b).getD 3 0), .int .u64 ((mwW b).getD 4 0)] : List Value).length = 5) (lenA ((iv_length .u8 (frF 32 32 ([(mwW b).getD 5 0, (mwW b).getD 6 0, (mwW b).getD 7 0, (mwW b).getD 8 0]))).trans hf40) ((iv_length .u8 (frF 32 32 ([(mwW b).getD 9 0, (mwW b).getD 10 0, (mwW b).getD 11 0, (mwW b).getD 12 0]))).trans hf41)))) (by have h : ([.int .u8 0] ++ ((iv .u64 (List.replicate 4 0)) ++ (iv .u8 (List.replicate 64 0))) : List Value).length = 69 := (lenA (rfl : ([.int .u8 0] : List Value).length = 1) (lenA ((iv_length .u64 (List.replicate 4 0)).trans List.length_replicate) ((iv_length .u8 (List.replicate 64 0)).trans List.length_replicate))); omega) (by exact (flA (by simp [Value.oneCell']) (flA (iv_flat _ _) (iv_flat _ _)))) (by exact blit_all _ _ ((show ([.int .u8 (IntKind.u8.wrap ((mwW b).getD 0 0)), .int .u64 ((mwW b).getD 1 0), .int .u64 ((mwW b).getD 2 0), .int .u64 ((mwW b).getD 3 0), .int .u64 ((mwW b).getD 4 0)] ++ ((iv .u8 (frF 32 32 ([(mwW b).getD 5 0, (mwW b).getD 6 0, (mwW b).getD 7 0, (mwW b).getD 8 0]))) ++ (iv .u8 (frF 32 32 ([(mwW b).getD 9 0, (mwW b).getD 10 0, (mwW b).getD 11 0, (mwW b).getD 12 0])))) : List Value).length = 69 from (lenA (rfl : ([.int .u8 (IntKind.u8.wrap ((mwW b).getD 0 0)), .int .u64 ((mwW b).getD 1 0), .int .u64 ((mwW b).getD 2 0), .int .u64 ((mwW b).getD 3 0), .int .u64 ((mwW b).getD 4 0)] : List Value).length = 5) (lenA ((iv_length .u8 (frF 32 32 ([(mwW b).getD 5 0, (mwW b).getD 6 0, (mwW b).getD 7 0, (mwW b).getD 8 0]))).trans hf40) ((iv_length .u8 (frF 32 32 ([(mwW b).getD 9 0, (mwW b).getD 10 0, (mwW b).getD 11 0, (mwW b).getD 12 0]))).trans hf41)))).trans (show ([.int .u8 0] ++ ((iv .u64 (List.replicate 4 0)) ++ (iv .u8 (List.replicate 64 0))) : List Value).length = 69 from (lenA (rfl : ([.int .u8 0] : List Value).length = 1) (lenA ((iv_length .u64 (List.replicate 4 0)).trans List.length_replicate) ((iv_length .u8 (List.replicate 64 0)).trans List.length_replicate)))).symm)) (fun w63 H => ?_)
        dsimp only [List.set] at H
        refine wc_run (T' := [(2, .pointer (some ⟨b1, 0, none⟩)), (3, .int .i64 0)]) (L2 := (rng 3 0)) 1 [2, 3] (by kernel_rfl) ?_
        refine wc_nil rfl ?_
        refine n_sq ?_
        refine wn_ret (by kernel_rfl) ?_
        refine ret2 _ (Or.inr rfl) Try.results29 ⟨_, _, rfl, Ld.entW H 2 (n := 69) rfl (by kernel_rfl) (by exact (lenA (rfl : ([.int .u8 (IntKind.u8.wrap ((mwW b).getD 0 0)), .int .u64 ((mwW b).getD 1 0), .int .u64 ((mwW b).getD 2 0), .int .u64 ((mwW b).getD 3 0), .int .u64 ((mwW b).getD 4 0)] : List Value).length = 5) (lenA ((iv_length .u8 (frF 32 32 ([(mwW b).getD 5 0, (mwW b).getD 6 0, (mwW b).getD 7 0, (mwW b).getD 8 0]))).trans hf40) ((iv_length .u8 (frF 32 32 ([(mwW b).getD 9 0, (mwW b).getD 10 0, (mwW b).getD 11 0, (mwW b).getD 12 0]))).trans hf41))))⟩ rfl ?_
        have he64 : (rdM b).k = IntKind.u8.wrap ((mwW b).getD 0 0) := by
          rw [hT (hD hc8 hg42 hc53)]
        have he65 : (rdM b).f = (mwW b).getD 1 0 := by
          rw [hT (hD hc8 hg42 hc53)]
        have he66 : (rdM b).t = (mwW b).getD 2 0 := by
          rw [hT (hD hc8 hg42 hc53)]
        have he67 : (rdM b).a = (mwW b).getD 3 0 := by
          rw [hT (hD hc8 hg42 hc53)]
        have he68 : (rdM b).n = (mwW b).getD 4 0 := by
          rw [hT (hD hc8 hg42 hc53)]
        have he69 : (rdM b).x = frF 32 32 ([(mwW b).getD 5 0, (mwW b).getD 6 0, (mwW b).getD 7 0, (mwW b).getD 8 0]) := by
          simp only [hT (hD hc8 hg42 hc53), hX0]
        have he70 : (rdM b).y = frF 32 32 ([(mwW b).getD 9 0, (mwW b).getD 10 0, (mwW b).getD 11 0, (mwW b).getD 12 0]) := by
          simp only [hT (hD hc8 hg42 hc53), hY0]
        have he71 : rdE b = (0 : Int) := by
          rw [hET (hD hc8 hg42 hc53)]
        exact ⟨by first | (rw [he64, he65, he66, he67, he68, he69, he70, he71]; done) | (rw [he64, he65, he66, he67, he68, he69, he70, he71]; rfl), H.nil, by exact rdM_x b, by exact rdM_y b⟩
end Go.Proofs.Ytfeecdcanjkohaa
