/-
  Walks of some of this seat's functions: each call's answer, and what it leaves of memory. No condition beside those that stand in each theorem.
-/
import Derived.Test.YtfeecdcanjkohaaRows
import Derived.Test.YtfeecdcanjkohaaSh4
import Derived.Test.YtfeecdcanjkohaaSa9
import Derived.Test.YtfeecdcanjkohaaOps3
set_option linter.all false
namespace Go.Proofs.Ytfeecdcanjkohaa
open Go.RowKit Go.Px

/-- The sum of three letters, by the standard. -/
theorem abc : hexF (shaF [97, 98, 99]) = [98, 97, 55, 56, 49, 54, 98, 102, 56, 102, 48, 49, 99, 102, 101, 97, 52, 49, 52, 49, 52, 48, 100, 101, 53, 100, 97, 101, 50, 50, 50, 51, 98, 48, 48, 51, 54, 49, 97, 51, 57, 54, 49, 55, 55, 97, 57, 99, 98, 52, 49, 48, 102, 102, 54, 49, 102, 50, 48, 48, 49, 53, 97, 100] := by kernel_rfl
theorem abcD : hexF (shaF [97, 98, 99]) = [98, 97, 55, 56, 49, 54, 98, 102, 56, 102, 48, 49, 99, 102, 101, 97, 52, 49, 52, 49, 52, 48, 100, 101, 53, 100, 97, 101, 50, 50, 50, 51, 98, 48, 48, 51, 54, 49, 97, 51, 57, 54, 49, 55, 55, 97, 57, 99, 98, 52, 49, 48, 102, 102, 54, 49, 102, 50, 48, 48, 49, 53, 97, 100] ↔ True := iff_true_intro abc
theorem shaF_g (b : List Int) : ∀ j, 0 ≤ (shaF b).getD j 0 ∧ (shaF b).getD j 0 < 256 := get_of_mem (p := fun x => 0 ≤ x ∧ x < 256) (by omega) (shaF_range b)
theorem hex_get (h : List Int) : ∀ n j, j < n → (itN (hxS h) n []).getD (2 * j) 0 = DGL.getD (h.getD j 0 / 16).toNat 0 ∧ (itN (hxS h) n []).getD (2 * j + 1) 0 = DGL.getD (h.getD j 0 % 16).toNat 0
  | 0, j, hj => by omega
  | n + 1, j, hj => by
    have hl := hexN_length h n
    rw [itN, hxS]
    simp only [List.getD_eq_getElem?_getD]
    by_cases e : j = n
    · subst e
      rw [List.getElem?_append_right (by omega), List.getElem?_append_right (by omega), hl, Nat.sub_self, show 2 * j + 1 - 2 * j = 1 by omega]
      exact ⟨rfl, rfl⟩
    · have := hex_get h n j (by omega)
      simp only [List.getD_eq_getElem?_getD] at this
      rw [List.getElem?_append_left (by omega), List.getElem?_append_left (by omega)]
      exact this
theorem dg_back {d : Int} (h0 : 0 ≤ d) (h1 : d < 16) : hfB (DGL.getD d.toNat 0) = true ∧ hfV (DGL.getD d.toNat 0) = d := by
  have : d = 0 ∨ d = 1 ∨ d = 2 ∨ d = 3 ∨ d = 4 ∨ d = 5 ∨ d = 6 ∨ d = 7 ∨ d = 8 ∨ d = 9 ∨ d = 10 ∨ d = 11 ∨ d = 12 ∨ d = 13 ∨ d = 14 ∨ d = 15 := by omega
  rcases this with rfl | rfl | rfl | rfl | rfl | rfl | rfl | rfl | rfl | rfl | rfl | rfl | rfl | rfl | rfl | rfl <;> decide
theorem un_hexN {h : List Int} (hh : h.length = 32) (hb : ∀ j, 0 ≤ h.getD j 0 ∧ h.getD j 0 < 256) : ∀ n, n ≤ 32 → unN (hexF h) (2 * n) = h.take n ++ List.replicate (32 - n) 0
  | 0, _ => by simp [unN, itN]
  | n + 1, hn => by
    have ih := un_hexN hh hb n (by omega)
    obtain ⟨g1, g2⟩ := hex_get h 32 n (by omega)
    have hx := hb n
    have d1 := (dg_back (d := h.getD n 0 / 16) (by omega) (by omega)).2
    have d2 := (dg_back (d := h.getD n 0 % 16) (by omega) (by omega)).2
    have e0 : (2 * n) / 2 = n := by omega
    have e1 : (2 * n + 1) / 2 = n := by omega
    have hr : List.replicate (32 - n) (0 : Int) = 0 :: List.replicate (32 - (n + 1)) 0 := by rw [show 32 - n = (32 - (n + 1)) + 1 by omega, List.replicate_succ]
    have hl : (h.take n).length = n := by rw [List.length_take]; omega
    unfold unN at ih ⊢
    rw [show 2 * (n + 1) = 2 * n + 1 + 1 by omega, itN, itN, ih, hr]
    simp only [unS, e0, e1]
    have hN : hexF h = itN (hxS h) 32 [] := rfl
    rw [hN, g1, g2, d1, d2]
    have q0 : ∀ v : Int, (h.take n ++ v :: List.replicate (32 - (n + 1)) 0).getD n 0 = v := fun v => by
      rw [List.getD_eq_getElem?_getD, List.getElem?_append_right (by omega), hl, Nat.sub_self]; rfl
    have q1 : ∀ v u : Int, (h.take n ++ v :: List.replicate (32 - (n + 1)) 0).set n u = h.take n ++ u :: List.replicate (32 - (n + 1)) 0 := fun v u => by
      rw [List.set_append_right _ _ (by omega), hl, Nat.sub_self]; rfl
    rw [q0, q1, q0, q1]
    have ht : h.take (n + 1) = h.take n ++ [h.getD n 0] := by
      rw [List.take_succ, List.getD_eq_getElem?_getD, List.getElem?_eq_getElem (by omega)]; simp
    rw [ht, List.append_assoc, show ((0 * 16 + h.getD n 0 / 16) % 256 * 16 + h.getD n 0 % 16) % 256 = h.getD n 0 by omega]
    rfl
theorem un_hex {h : List Int} (hh : h.length = 32) (hb : ∀ j, 0 ≤ h.getD j 0 ∧ h.getD j 0 < 256) : unH (hexF h) = h ∧ unE (hexF h) = 0 := by
  have hok : unOk (hexF h) = true := un_good (hexF_length h) fun j hj => by
    obtain ⟨g1, g2⟩ := hex_get h 32 (j / 2) (by omega)
    have hx := hb (j / 2)
    have d1 := (dg_back (d := h.getD (j / 2) 0 / 16) (by omega) (by omega)).1
    have d2 := (dg_back (d := h.getD (j / 2) 0 % 16) (by omega) (by omega)).1
    have hN : hexF h = itN (hxS h) 32 [] := rfl
    rw [hN]
    by_cases e : j % 2 = 0
    · rw [show j = 2 * (j / 2) by omega, g1]; exact d1
    · rw [show j = 2 * (j / 2) + 1 by omega, g2]; exact d2
  refine ⟨?_, by unfold unE; rw [if_pos hok]⟩
  unfold unH
  rw [if_pos hok, show 64 = 2 * 32 from rfl, un_hexN hh hb 32 (by omega), List.take_of_length_le (by omega)]
  simp
theorem pair_rounds {x y : List Int} (hx : x.length = 32) (hy : y.length = 32) : (padF (([(1 : Int)] ++ x) ++ y)).length / 64 = 2 := by
  rw [padF_length]
  simp only [List.length_append, List.length_cons, List.length_nil, hx, hy]
  rfl

noncomputable def cd_law01_anchored : Code := (Try.f41.body).getD .skip
theorem law01_anchored (w : World)   :
    Calls Try.prog 41 #[] w (fun e w' => e = .returned (.bool true) ∧ Hp no w w' []) := by
  refine enter (args := []) (c := cd_law01_anchored) (N := 6) Try.func41 (by kernel_rfl) (by kernel_rfl) (by simp) ?_
  have H := Hp.start w
  refine wn_seq (by kernel_rfl) ?_
  refine wn_reg 1 (by kernel_rfl) ?_
  refine wc_run (T' := []) (L2 := (rng 1 0)) 1 [] (by kernel_rfl) ?_
  refine wc_nil rfl ?_
  refine n_sq ?_
  refine wn_seq (by kernel_rfl) ?_
  refine wn_regO [(1, 3)] 6 (by kernel_rfl) ?_
  refine wc_new H (some 1) (row ([.int .u8 97, .int .u8 98, .int .u8 99]) 5) (fun r => .slice (some ⟨r, 0, none⟩) 3 3) (by kernel_rfl) (fun b1 w2 H => ?_)
  refine wc_ms H 0 (some 2) (b := b1) (n := 3) (c := 3) (e := 5) (cs := (iv .u8 ([97, 98, 99]))) (by kernel_rfl) rfl (fun w3 H => ?_)
  dsimp only [List.set] at H
  refine wc_call (some 3) (by kernel_rfl) (sha_Sum w3 ([97, 98, 99]) (some ⟨b1, 0, none⟩) 3 (H.pr 0 rfl) (by decide)) ?_
  rintro _ w4 ⟨rfl, H1, hf5⟩
  refine ⟨_, rfl, fun _ => H1.keep, ?_⟩
  replace H := H.call H1
  simp only [List.nil_append] at H
  refine wc_call (some 4) (by kernel_rfl) (sha_Hex w4 (shaF ([97, 98, 99])) hf5 (shaF_g _)) ?_
  rintro _ w6 ⟨rfl, H1⟩
  refine ⟨_, rfl, fun _ => H1.keep, ?_⟩
  replace H := H.call H1
  simp only [List.nil_append] at H
  refine wc_se (some 5) true (hexF (shaF ([97, 98, 99]))) ([98, 97, 55, 56, 49, 54, 98, 102, 56, 102, 48, 49, 99, 102, 101, 97, 52, 49, 52, 49, 52, 48, 100, 101, 53, 100, 97, 101, 50, 50, 50, 51, 98, 48, 48, 51, 54, 49, 97, 51, 57, 54, 49, 55, 55, 97, 57, 99, 98, 52, 49, 48, 102, 102, 54, 49, 102, 50, 48, 48, 49, 53, 97, 100]) 0 (by kernel_rfl) (by first | exact hexF_range _ | assumption | decide) (by decide) ?_
  simp only [if_true, Bool.false_eq_true, if_false]
  refine wc_run (T' := [(0, .bool (decide ((hexF (shaF ([97, 98, 99]))) = [98, 97, 55, 56, 49, 54, 98, 102, 56, 102, 48, 49, 99, 102, 101, 97, 52, 49, 52, 49, 52, 48, 100, 101, 53, 100, 97, 101, 50, 50, 50, 51, 98, 48, 48, 51, 54, 49, 97, 51, 57, 54, 49, 55, 55, 97, 57, 99, 98, 52, 49, 48, 102, 102, 54, 49, 102, 50, 48, 48, 49, 53, 97, 100])))]) (L2 := (rng 6 0)) 1 [0] (by kernel_rfl) ?_
  refine wc_nil rfl ?_
  refine n_sq ?_
  refine wn_ret (by kernel_rfl) ?_
  refine ret1 _ (Or.inr rfl) Try.results41 rfl ?_
  have he7 : true = decide ((hexF (shaF ([97, 98, 99]))) = [98, 97, 55, 56, 49, 54, 98, 102, 56, 102, 48, 49, 99, 102, 101, 97, 52, 49, 52, 49, 52, 48, 100, 101, 53, 100, 97, 101, 50, 50, 50, 51, 98, 48, 48, 51, 54, 49, 97, 51, 57, 54, 49, 55, 55, 97, 57, 99, 98, 52, 49, 48, 102, 102, 54, 49, 102, 50, 48, 48, 49, 53, 97, 100]) := by
    rw [decide_eq_true abc]
  exact ⟨by first | (rw [he7]; done) | (rw [he7]; rfl), H.nil⟩

noncomputable def cd_proctorlaw01_ShaTexts : Code := (Try.f11.body).getD .skip
theorem proctorlaw01_ShaTexts (w : World) (h : List Int) (wv : List Int) (s : List Int) (hh : h.length = 32) (hb : ∀ j, 0 ≤ h.getD j 0 ∧ h.getD j 0 < 256) (hw : wv.length = 4) (hwr : ∀ x ∈ wv, 0 ≤ x ∧ x < 18446744073709551616) (hs : ∀ x ∈ s, 0 ≤ x ∧ x < 256) :
    Calls Try.prog 11 #[.agg (iv .u8 h).toArray, .agg (iv .u64 wv).toArray, .string (strOfNums s)] w (fun e w' => e = .returned (.bool true) ∧ Hp no w w' []) := by
  refine enter (args := [_, _, _]) (c := cd_proctorlaw01_ShaTexts) (N := 53) Try.func11 (by kernel_rfl) (by kernel_rfl) (by simp) ?_
  have H := Hp.start w
  refine wn_seq (by kernel_rfl) ?_
  refine wn_reg 3 (by kernel_rfl) ?_
  refine wc_new H (some 3) (row (iv .u8 h) 47) (fun r => .pointer (some ⟨r, 0, none⟩)) (by kernel_rfl) (fun b1 w2 H => ?_)
  refine wc_new H (some 4) (row (iv .u64 wv) 73) (fun r => .pointer (some ⟨r, 0, none⟩)) (by kernel_rfl) (fun b3 w4 H => ?_)
  refine wc_run (T' := [(2, .string (strOfNums s)), (3, .pointer (some ⟨b1, 0, none⟩)), (4, .pointer (some ⟨b3, 0, none⟩))]) (L2 := (rng 3 0)) 1 [2, 3, 4] (by kernel_rfl) ?_
  refine wc_nil rfl ?_
  refine n_sq ?_
  refine wn_seq (by kernel_rfl) ?_
  refine wn_reg 8 (by kernel_rfl) ?_
  refine wc_run (T' := [(2, .string (strOfNums s)), (3, .pointer (some ⟨b1, 0, none⟩)), (4, .pointer (some ⟨b3, 0, none⟩)), (12, .string (strOfNums s))]) (L2 := (rng 1 7)) 1 [2, 3, 4, 12] (by kernel_rfl) ?_
  refine wc_call (some 13) (by kernel_rfl) (sha_Unhex w4 s hs) ?_
  rintro _ w5 ⟨rfl, H1, hf6⟩
  refine ⟨_, rfl, fun _ => H1.keep, ?_⟩
  replace H := H.call H1
  simp only [List.nil_append] at H
  refine wc_run (T' := [(2, .string (strOfNums s)), (3, .pointer (some ⟨b1, 0, none⟩)), (4, .pointer (some ⟨b3, 0, none⟩)), (14, .agg (iv .u8 (unH s)).toArray), (15, .int .i64 (unE s))]) (L2 := (rng 5 3)) 3 [2, 3, 4, 14, 15] (by kernel_rfl) ?_
  refine wc_new H (some 7) (row (iv .u8 (List.replicate 32 0)) 47) (fun r => .pointer (some ⟨r, 0, none⟩)) (by kernel_rfl) (fun b7 w8 H => ?_)
  refine wc_st (b := b7) (off := 0) (Tb := 47) (vs := (iv .u8 (unH s))) (cs' := (iv .u8 (unH s))) H 0 47 (.agg (iv .u8 (unH s)).toArray) 32 (by kernel_rfl) rfl rfl (by exact (iv_length .u8 (unH s)).trans hf6) (by have h := (iv_length .u8 (List.replicate 32 0)).trans List.length_replicate; omega) (by exact iv_flat _ _) (by exact blit_all _ _ ((show (iv .u8 (unH s) : List Value).length = 32 from (iv_length .u8 (unH s)).trans hf6).trans (show (iv .u8 (List.replicate 32 0) : List Value).length = 32 from (iv_length .u8 (List.replicate 32 0)).trans List.length_replicate).symm)) (fun w9 H => ?_)
  dsimp only [List.set] at H
  refine wc_run (T' := [(2, .string (strOfNums s)), (3, .pointer (some ⟨b1, 0, none⟩)), (4, .pointer (some ⟨b3, 0, none⟩)), (7, .pointer (some ⟨b7, 0, none⟩)), (8, .int .i64 (unE s))]) (L2 := (rng 8 0)) 1 [2, 3, 4, 7, 8] (by kernel_rfl) ?_
  refine wc_nil rfl ?_
  refine n_sq ?_
  refine wn_seq (by kernel_rfl) ?_
  refine wn_reg 8 (by kernel_rfl) ?_
  refine wc_run (T' := [(3, .pointer (some ⟨b1, 0, none⟩)), (4, .pointer (some ⟨b3, 0, none⟩)), (7, .pointer (some ⟨b7, 0, none⟩)), (8, .int .i64 (unE s)), (17, .string (strOfNums s))]) (L2 := (rng 1 7)) 1 [3, 4, 7, 8, 17] (by kernel_rfl) ?_
  refine wc_call (some 18) (by kernel_rfl) (proctorref01_Unhex w9 s hs) ?_
  rintro _ w10 ⟨rfl, H1, hf11⟩
  refine ⟨_, rfl, fun _ => H1.keep, ?_⟩
  replace H := H.call H1
  simp only [List.nil_append] at H
  refine wc_run (T' := [(3, .pointer (some ⟨b1, 0, none⟩)), (4, .pointer (some ⟨b3, 0, none⟩)), (7, .pointer (some ⟨b7, 0, none⟩)), (8, .int .i64 (unE s)), (19, .agg (iv .u8 (unH s)).toArray), (20, .int .i64 (unE s))]) (L2 := (rng 5 3)) 3 [3, 4, 7, 8, 19, 20] (by kernel_rfl) ?_
  refine wc_new H (some 9) (row (iv .u8 (List.replicate 32 0)) 47) (fun r => .pointer (some ⟨r, 0, none⟩)) (by kernel_rfl) (fun b12 w13 H => ?_)
  refine wc_st (b := b12) (off := 0) (Tb := 47) (vs := (iv .u8 (unH s))) (cs' := (iv .u8 (unH s))) H 0 47 (.agg (iv .u8 (unH s)).toArray) 32 (by kernel_rfl) rfl rfl (by exact (iv_length .u8 (unH s)).trans hf11) (by have h := (iv_length .u8 (List.replicate 32 0)).trans List.length_replicate; omega) (by exact iv_flat _ _) (by exact blit_all _ _ ((show (iv .u8 (unH s) : List Value).length = 32 from (iv_length .u8 (unH s)).trans hf11).trans (show (iv .u8 (List.replicate 32 0) : List Value).length = 32 from (iv_length .u8 (List.replicate 32 0)).trans List.length_replicate).symm)) (fun w14 H => ?_)
  dsimp only [List.set] at H
  refine wc_run (T' := [(3, .pointer (some ⟨b1, 0, none⟩)), (4, .pointer (some ⟨b3, 0, none⟩)), (7, .pointer (some ⟨b7, 0, none⟩)), (8, .int .i64 (unE s)), (9, .pointer (some ⟨b12, 0, none⟩)), (10, .int .i64 (unE s))]) (L2 := (rng 8 0)) 1 [3, 4, 7, 8, 9, 10] (by kernel_rfl) ?_
  refine wc_nil rfl ?_
  refine n_sq ?_
  refine wn_seq (by kernel_rfl) ?_
  refine wn_regD [] (ol [0, 2, 1, 3, 4, 5, 6, 8, 7, 9, 10, 11, 12, 13, 15, 14, 16, 17, 18, 19, 20, 21, 22, 23, 24, 25, 26, 27, 28, 29, 30, 31, 32]) (by kernel_rfl) H (fun w15 H => ?_)
  refine wc_ld (b := b1) (off := 0) (some 21) 47 (.agg (iv .u8 h).toArray) (by kernel_rfl) (Ld.entW H 3 (n := 32) rfl (by kernel_rfl) (by exact (iv_length .u8 h).trans hh)) ?_
  refine wc_ld (b := b1) (off := 0) (some 23) 47 (.agg (iv .u8 h).toArray) (by kernel_rfl) (Ld.entW H 3 (n := 32) rfl (by kernel_rfl) (by exact (iv_length .u8 h).trans hh)) ?_
  refine wc_call (some 22) (by kernel_rfl) (sha_Words w15 h hh hb) ?_
  rintro _ w16 ⟨rfl, H1, hf17⟩
  refine ⟨_, rfl, fun _ => H1.keep, ?_⟩
  replace H := H.call H1
  simp only [List.nil_append] at H
  refine wc_call (some 24) (by kernel_rfl) (proctorref01_Words w16 h hh hb) ?_
  rintro _ w18 ⟨rfl, H1, hf19⟩
  refine ⟨_, rfl, fun _ => H1.keep, ?_⟩
  replace H := H.call H1
  simp only [List.nil_append] at H
  refine wc_eqA (c := true) 2 (some 25) 73 true (iv .u64 (wdF 4 32 h)) (iv .u64 (wdF 4 32 h)) (by kernel_rfl) (by have h := EqV.arrC (P := Try.prog) (t := 73) (k := .u64) (n := 4) (by kernel_rfl) (wdF 4 32 h) (wdF 4 32 h) (by exact hf19) (by exact hf19); rw [decide_eq_true rfl] at h; exact h) ?_
  simp only [if_true, Bool.false_eq_true, if_false, Bool.not_true]
  refine wc_run (T' := [(3, .pointer (some ⟨b1, 0, none⟩)), (4, .pointer (some ⟨b3, 0, none⟩)), (7, .pointer (some ⟨b7, 0, none⟩)), (8, .int .i64 (unE s)), (9, .pointer (some ⟨b12, 0, none⟩)), (10, .int .i64 (unE s)), (26, .bool true)]) (L2 := (ol [6, 8, 7, 9, 10, 11, 12, 13, 15, 14, 16, 17, 18, 19, 20, 21, 22, 23, 24, 25, 26, 27, 28, 29, 30, 31, 32])) 1 [3, 4, 7, 8, 9, 10, 26] (by kernel_rfl) ?_
  refine wc_ld (b := b3) (off := 0) (some 27) 73 (.agg (iv .u64 wv).toArray) (by kernel_rfl) (Ld.entW H 2 (n := 4) rfl (by kernel_rfl) (by exact (iv_length .u64 wv).trans hw)) ?_
  refine wc_ld (b := b3) (off := 0) (some 29) 73 (.agg (iv .u64 wv).toArray) (by kernel_rfl) (Ld.entW H 2 (n := 4) rfl (by kernel_rfl) (by exact (iv_length .u64 wv).trans hw)) ?_
  refine wc_call (some 28) (by kernel_rfl) (sha_From w18 wv hw) ?_
  rintro _ w20 ⟨rfl, H1, hf21⟩
  refine ⟨_, rfl, fun _ => H1.keep, ?_⟩
  replace H := H.call H1
  simp only [List.nil_append] at H
  refine wc_call (some 30) (by kernel_rfl) (proctorref01_From w20 wv hw) ?_
  rintro _ w22 ⟨rfl, H1, hf23⟩
  refine ⟨_, rfl, fun _ => H1.keep, ?_⟩
  replace H := H.call H1
  simp only [List.nil_append] at H
  refine wc_eqA (c := true) 2 (some 31) 47 true (iv .u8 (frF 32 32 wv)) (iv .u8 (frF 32 32 wv)) (by kernel_rfl) (by have h := EqV.arrC (P := Try.prog) (t := 47) (k := .u8) (n := 32) (by kernel_rfl) (frF 32 32 wv) (frF 32 32 wv) (by exact hf23) (by exact hf23); rw [decide_eq_true rfl] at h; exact h) ?_
  simp only [if_true, Bool.false_eq_true, if_false, Bool.not_true]
  refine wc_run (T' := [(3, .pointer (some ⟨b1, 0, none⟩)), (7, .pointer (some ⟨b7, 0, none⟩)), (8, .int .i64 (unE s)), (9, .pointer (some ⟨b12, 0, none⟩)), (10, .int .i64 (unE s)), (33, .bool true)]) (L2 := (ol [13, 15, 14, 16, 17, 18, 19, 20, 21, 22, 23, 24, 25, 26, 27, 28, 29, 30, 31, 32])) 2 [3, 7, 8, 9, 10, 33] (by kernel_rfl) ?_
  refine wc_ld (b := b1) (off := 0) (some 34) 47 (.agg (iv .u8 h).toArray) (by kernel_rfl) (Ld.entW H 3 (n := 32) rfl (by kernel_rfl) (by exact (iv_length .u8 h).trans hh)) ?_
  refine wc_ld (b := b1) (off := 0) (some 36) 47 (.agg (iv .u8 h).toArray) (by kernel_rfl) (Ld.entW H 3 (n := 32) rfl (by kernel_rfl) (by exact (iv_length .u8 h).trans hh)) ?_
  refine wc_call (some 35) (by kernel_rfl) (sha_Hex w22 h hh hb) ?_
  rintro _ w24 ⟨rfl, H1⟩
  refine ⟨_, rfl, fun _ => H1.keep, ?_⟩
  replace H := H.call H1
  simp only [List.nil_append] at H
  refine wc_call (some 37) (by kernel_rfl) (proctorref01_Hex w24 h hh hb) ?_
  rintro _ w25 ⟨rfl, H1⟩
  refine ⟨_, rfl, fun _ => H1.keep, ?_⟩
  replace H := H.call H1
  simp only [List.nil_append] at H
  refine wc_se (some 38) true (hexF h) (hexF h) 0 (by kernel_rfl) (by first | exact hexF_range _ | assumption | decide) (by first | exact hexF_range _ | assumption | decide) ?_
  simp only [if_true, Bool.false_eq_true, if_false, decide_true, Bool.not_true]
  refine wc_run (T' := [(7, .pointer (some ⟨b7, 0, none⟩)), (8, .int .i64 (unE s)), (9, .pointer (some ⟨b12, 0, none⟩)), (10, .int .i64 (unE s)), (40, .bool true)]) (L2 := (ol [20, 21, 22, 23, 24, 25, 26, 27, 28, 29, 30, 31, 32])) 2 [7, 8, 9, 10, 40] (by kernel_rfl) ?_
  refine wc_ld (b := b7) (off := 0) (some 41) 47 (.agg (iv .u8 (unH s)).toArray) (by kernel_rfl) (Ld.entW H 1 (n := 32) rfl (by kernel_rfl) (by exact (iv_length .u8 (unH s)).trans hf11)) ?_
  refine wc_ld (b := b12) (off := 0) (some 42) 47 (.agg (iv .u8 (unH s)).toArray) (by kernel_rfl) (Ld.entW H 0 (n := 32) rfl (by kernel_rfl) (by exact (iv_length .u8 (unH s)).trans hf11)) ?_
  refine wc_eqA (c := true) 2 (some 43) 47 true (iv .u8 (unH s)) (iv .u8 (unH s)) (by kernel_rfl) (by have h := EqV.arrC (P := Try.prog) (t := 47) (k := .u8) (n := 32) (by kernel_rfl) (unH s) (unH s) (by exact hf11) (by exact hf11); rw [decide_eq_true rfl] at h; exact h) ?_
  simp only [if_true, Bool.false_eq_true, if_false, Bool.not_true]
  refine wc_run (T' := [(50, .bool ((unE s) == (unE s)))]) (L2 := (ol [30, 31, 32])) 7 [50] (by kernel_rfl) ?_
  rcases Bool.eq_false_or_eq_true ((unE s) == (unE s)) with hg26 | hg26
  · rw [hg26]
    have hg26 := eq_of_beq hg26
    refine wc_call (some 51) (by kernel_rfl) (law01_anchored w25) ?_
    rintro _ w27 ⟨rfl, H1⟩
    refine ⟨_, rfl, fun _ => H1.keep, ?_⟩
    replace H := H.call H1
    simp only [List.nil_append] at H
    refine wc_run (T' := [(6, .bool true)]) (L2 := (ol [])) 2 [6] (by kernel_rfl) ?_
    refine wc_nil rfl ?_
    refine n_np ?_
    refine n_sq ?_
    refine wn_ret (by kernel_rfl) ?_
    refine ret1 _ (Or.inr rfl) Try.results11 rfl ?_
    exact ⟨rfl, H.nil⟩
  · rw [hg26]
    have hg26 := ne_of_beq_false hg26
    exact absurd rfl hg26

noncomputable def cd_proctorlaw01_ShaBack : Code := (Try.f12.body).getD .skip
theorem proctorlaw01_ShaBack (w : World) (h : List Int) (wv : List Int) (hh : h.length = 32) (hb : ∀ j, 0 ≤ h.getD j 0 ∧ h.getD j 0 < 256) (hw : wv.length = 4) (hwr : ∀ x ∈ wv, 0 ≤ x ∧ x < 18446744073709551616) :
    Calls Try.prog 12 #[.agg (iv .u8 h).toArray, .agg (iv .u64 wv).toArray] w (fun e w' => e = .returned (.bool true) ∧ Hp no w w' []) := by
  obtain ⟨hu1, hu2⟩ := un_hex hh hb
  have hf1 := hash_back hh hb
  have hf2 := words_hash hw hwr
  have hl := hexF_length h
  have hfr := get_of_mem (p := fun x => 0 ≤ x ∧ x < 256) (l := frF 32 32 wv) (by omega) (frF_range _)
  refine enter (args := [_, _]) (c := cd_proctorlaw01_ShaBack) (N := 43) Try.func12 (by kernel_rfl) (by kernel_rfl) (by simp) ?_
  have H := Hp.start w
  refine wn_seq (by kernel_rfl) ?_
  refine wn_reg 3 (by kernel_rfl) ?_
  refine wc_new H (some 2) (row (iv .u8 h) 47) (fun r => .pointer (some ⟨r, 0, none⟩)) (by kernel_rfl) (fun b1 w2 H => ?_)
  refine wc_new H (some 3) (row (iv .u64 wv) 73) (fun r => .pointer (some ⟨r, 0, none⟩)) (by kernel_rfl) (fun b3 w4 H => ?_)
  refine wc_run (T' := [(2, .pointer (some ⟨b1, 0, none⟩)), (3, .pointer (some ⟨b3, 0, none⟩))]) (L2 := (rng 3 0)) 1 [2, 3] (by kernel_rfl) ?_
  refine wc_nil rfl ?_
  refine n_sq ?_
  refine wn_seq (by kernel_rfl) ?_
  refine wn_reg 9 (by kernel_rfl) ?_
  refine wc_ld (b := b1) (off := 0) (some 8) 47 (.agg (iv .u8 h).toArray) (by kernel_rfl) (Ld.entW H 1 (n := 32) rfl (by kernel_rfl) (by exact (iv_length .u8 h).trans hh)) ?_
  refine wc_call (some 9) (by kernel_rfl) (sha_Hex w4 h hh hb) ?_
  rintro _ w5 ⟨rfl, H1⟩
  refine ⟨_, rfl, fun _ => H1.keep, ?_⟩
  replace H := H.call H1
  simp only [List.nil_append] at H
  refine wc_call (some 10) (by kernel_rfl) (sha_Unhex w5 (hexF h) (hexF_range _)) ?_
  rintro _ w6 ⟨rfl, H1, hf7⟩
  refine ⟨_, rfl, fun _ => H1.keep, ?_⟩
  replace H := H.call H1
  simp only [List.nil_append] at H
  refine wc_run (T' := [(2, .pointer (some ⟨b1, 0, none⟩)), (3, .pointer (some ⟨b3, 0, none⟩)), (11, .agg (iv .u8 (unH (hexF h))).toArray), (12, .int .i64 (unE (hexF h)))]) (L2 := (rng 6 3)) 3 [2, 3, 11, 12] (by kernel_rfl) ?_
  refine wc_new H (some 5) (row (iv .u8 (List.replicate 32 0)) 47) (fun r => .pointer (some ⟨r, 0, none⟩)) (by kernel_rfl) (fun b8 w9 H => ?_)
  refine wc_st (b := b8) (off := 0) (Tb := 47) (vs := (iv .u8 (unH (hexF h)))) (cs' := (iv .u8 (unH (hexF h)))) H 0 47 (.agg (iv .u8 (unH (hexF h))).toArray) 32 (by kernel_rfl) rfl rfl (by exact (iv_length .u8 (unH (hexF h))).trans hf7) (by have h := (iv_length .u8 (List.replicate 32 0)).trans List.length_replicate; omega) (by exact iv_flat _ _) (by exact blit_all _ _ ((show (iv .u8 (unH (hexF h)) : List Value).length = 32 from (iv_length .u8 (unH (hexF h))).trans hf7).trans (show (iv .u8 (List.replicate 32 0) : List Value).length = 32 from (iv_length .u8 (List.replicate 32 0)).trans List.length_replicate).symm)) (fun w10 H => ?_)
  dsimp only [List.set] at H
  refine wc_run (T' := [(2, .pointer (some ⟨b1, 0, none⟩)), (3, .pointer (some ⟨b3, 0, none⟩)), (5, .pointer (some ⟨b8, 0, none⟩)), (6, .int .i64 (unE (hexF h)))]) (L2 := (rng 9 0)) 1 [2, 3, 5, 6] (by kernel_rfl) ?_
  refine wc_nil rfl ?_
  refine n_sq ?_
  refine wn_seq (by kernel_rfl) ?_
  refine wn_regD [] (ol [0, 1, 2, 3, 4, 5, 6, 7, 8, 9, 10, 11, 14, 12, 13, 15, 16, 17, 18, 21, 19, 20, 22, 23, 24, 25, 26, 27, 28, 29, 30]) (by kernel_rfl) H (fun w11 H => ?_)
  refine wc_call (some 13) (by kernel_rfl) (law01_anchored w11) ?_
  rintro _ w12 ⟨rfl, H1⟩
  refine ⟨_, rfl, fun _ => H1.keep, ?_⟩
  replace H := H.call H1
  simp only [List.nil_append] at H
  refine wc_run (T' := [(2, .pointer (some ⟨b1, 0, none⟩)), (3, .pointer (some ⟨b3, 0, none⟩)), (5, .pointer (some ⟨b8, 0, none⟩)), (18, .bool ((unE (hexF h)) == (0 : Int)))]) (L2 := (ol [6, 7, 8, 9, 10, 11, 14, 12, 13, 15, 16, 17, 18, 21, 19, 20, 22, 23, 24, 25, 26, 27, 28, 29, 30])) 5 [2, 3, 5, 18] (by kernel_rfl) ?_
  refine wc_if ((unE (hexF h)) == (0 : Int)) (ol [10, 11, 14, 12, 13, 15, 16, 17, 18, 21, 19, 20, 22, 23, 24, 25, 26, 27, 28, 29, 30]) ([(2, .pointer (some ⟨b1, 0, none⟩)), (3, .pointer (some ⟨b3, 0, none⟩)), (22, .bool (((unE (hexF h)) == (0 : Int)) && (decide ((unH (hexF h)) = h))))]) (fun hg13 K => ?_) (fun hg13 K => ?_) ?_
  · rw [hg13] at K ⊢
    have hg13 := eq_of_beq hg13
    refine wc_ld (b := b8) (off := 0) (some 19) 47 (.agg (iv .u8 (unH (hexF h))).toArray) (by kernel_rfl) (Ld.entW H 0 (n := 32) rfl (by kernel_rfl) (by exact (iv_length .u8 (unH (hexF h))).trans hf7)) ?_
    refine wc_ld (b := b1) (off := 0) (some 20) 47 (.agg (iv .u8 h).toArray) (by kernel_rfl) (Ld.entW H 2 (n := 32) rfl (by kernel_rfl) (by exact (iv_length .u8 h).trans hh)) ?_
    refine wc_eqA (c := decide ((unH (hexF h)) = h)) 2 (some 21) 47 true (iv .u8 (unH (hexF h))) (iv .u8 h) (by kernel_rfl) (EqV.arrC (k := .u8) (n := 32) (by kernel_rfl) (unH (hexF h)) h (by exact hf7) (by exact hh)) ?_
    simp only [if_true, Bool.false_eq_true, if_false]
    refine wc_run (T' := [(2, .pointer (some ⟨b1, 0, none⟩)), (3, .pointer (some ⟨b3, 0, none⟩)), (22, .bool (decide ((unH (hexF h)) = h)))]) (L2 := (ol [10, 11, 14, 12, 13, 15, 16, 17, 18, 21, 19, 20, 22, 23, 24, 25, 26, 27, 28, 29, 30])) 1 [2, 3, 22] (by kernel_rfl) ?_
    try simp only [Bool.true_and, Bool.false_and, Bool.true_or, Bool.false_or, cond_true, cond_false] at K
    exact K
  · rw [hg13] at K ⊢
    have hg13 := ne_of_beq_false hg13
    refine wc_run (T' := [(2, .pointer (some ⟨b1, 0, none⟩)), (3, .pointer (some ⟨b3, 0, none⟩)), (22, .bool false)]) (L2 := (ol [10, 11, 14, 12, 13, 15, 16, 17, 18, 21, 19, 20, 22, 23, 24, 25, 26, 27, 28, 29, 30])) 4 [2, 3, 22] (by kernel_rfl) ?_
    try simp only [Bool.true_and, Bool.false_and, Bool.true_or, Bool.false_or, cond_true, cond_false] at K
    exact K
  refine wc_run (T' := [(2, .pointer (some ⟨b1, 0, none⟩)), (3, .pointer (some ⟨b3, 0, none⟩)), (23, .bool (((unE (hexF h)) == (0 : Int)) && (decide ((unH (hexF h)) = h))))]) (L2 := (ol [11, 14, 12, 13, 15, 16, 17, 18, 21, 19, 20, 22, 23, 24, 25, 26, 27, 28, 29, 30])) 1 [2, 3, 23] (by kernel_rfl) ?_
  rcases Bool.eq_false_or_eq_true (((unE (hexF h)) == (0 : Int)) && (decide ((unH (hexF h)) = h))) with hg14 | hg14
  · rw [hg14]
    try simp only [Bool.and_eq_true, Bool.or_eq_true, Bool.and_eq_false_iff, Bool.or_eq_false_iff, decide_eq_true_eq, decide_eq_false_iff_not, Bool.not_eq_true', Bool.not_eq_false', beq_iff_eq, bne_iff_ne, ne_eq, beq_eq_false_iff_ne, bne_eq_false_iff_eq, Decidable.not_not, cond_true, cond_false] at hg14
    refine wc_ld (b := b1) (off := 0) (some 24) 47 (.agg (iv .u8 h).toArray) (by kernel_rfl) (Ld.entW H 2 (n := 32) rfl (by kernel_rfl) (by exact (iv_length .u8 h).trans hh)) ?_
    refine wc_ld (b := b1) (off := 0) (some 27) 47 (.agg (iv .u8 h).toArray) (by kernel_rfl) (Ld.entW H 2 (n := 32) rfl (by kernel_rfl) (by exact (iv_length .u8 h).trans hh)) ?_
    refine wc_call (some 25) (by kernel_rfl) (sha_Words w12 h hh hb) ?_
    rintro _ w15 ⟨rfl, H1, hf16⟩
    refine ⟨_, rfl, fun _ => H1.keep, ?_⟩
    replace H := H.call H1
    simp only [List.nil_append] at H
    refine wc_call (some 26) (by kernel_rfl) (sha_From w15 (wdF 4 32 h) hf16) ?_
    rintro _ w17 ⟨rfl, H1, hf18⟩
    refine ⟨_, rfl, fun _ => H1.keep, ?_⟩
    replace H := H.call H1
    simp only [List.nil_append] at H
    refine wc_eqA (c := decide ((frF 32 32 (wdF 4 32 h)) = h)) 2 (some 28) 47 true (iv .u8 (frF 32 32 (wdF 4 32 h))) (iv .u8 h) (by kernel_rfl) (EqV.arrC (k := .u8) (n := 32) (by kernel_rfl) (frF 32 32 (wdF 4 32 h)) h (by exact hf18) (by exact hh)) ?_
    simp only [if_true, Bool.false_eq_true, if_false]
    refine wc_run (T' := [(2, .pointer (some ⟨b1, 0, none⟩)), (3, .pointer (some ⟨b3, 0, none⟩)), (30, .bool (decide ((frF 32 32 (wdF 4 32 h)) = h)))]) (L2 := (ol [18, 21, 19, 20, 22, 23, 24, 25, 26, 27, 28, 29, 30])) 2 [2, 3, 30] (by kernel_rfl) ?_
    by_cases hg19 : (frF 32 32 (wdF 4 32 h)) = h
    · rw [decide_eq_true hg19]
      refine wc_ld (b := b3) (off := 0) (some 31) 73 (.agg (iv .u64 wv).toArray) (by kernel_rfl) (Ld.entW H 1 (n := 4) rfl (by kernel_rfl) (by exact (iv_length .u64 wv).trans hw)) ?_
      refine wc_ld (b := b3) (off := 0) (some 34) 73 (.agg (iv .u64 wv).toArray) (by kernel_rfl) (Ld.entW H 1 (n := 4) rfl (by kernel_rfl) (by exact (iv_length .u64 wv).trans hw)) ?_
      refine wc_call (some 32) (by kernel_rfl) (sha_From w17 wv hw) ?_
      rintro _ w20 ⟨rfl, H1, hf21⟩
      refine ⟨_, rfl, fun _ => H1.keep, ?_⟩
      replace H := H.call H1
      simp only [List.nil_append] at H
      refine wc_call (some 33) (by kernel_rfl) (sha_Words w20 (frF 32 32 wv) hf21 hfr) ?_
      rintro _ w22 ⟨rfl, H1, hf23⟩
      refine ⟨_, rfl, fun _ => H1.keep, ?_⟩
      replace H := H.call H1
      simp only [List.nil_append] at H
      refine wc_eqA (c := decide ((wdF 4 32 (frF 32 32 wv)) = wv)) 2 (some 35) 73 true (iv .u64 (wdF 4 32 (frF 32 32 wv))) (iv .u64 wv) (by kernel_rfl) (EqV.arrC (k := .u64) (n := 4) (by kernel_rfl) (wdF 4 32 (frF 32 32 wv)) wv (by exact hf23) (by exact hw)) ?_
      simp only [if_true, Bool.false_eq_true, if_false]
      refine wc_run (T' := [(2, .pointer (some ⟨b1, 0, none⟩)), (37, .bool (decide ((wdF 4 32 (frF 32 32 wv)) = wv)))]) (L2 := (ol [25, 26, 27, 28, 29, 30])) 2 [2, 37] (by kernel_rfl) ?_
      by_cases hg24 : (wdF 4 32 (frF 32 32 wv)) = wv
      · rw [decide_eq_true hg24]
        refine wc_ld (b := b1) (off := 0) (some 38) 47 (.agg (iv .u8 h).toArray) (by kernel_rfl) (Ld.entW H 2 (n := 32) rfl (by kernel_rfl) (by exact (iv_length .u8 h).trans hh)) ?_
        refine wc_call (some 39) (by kernel_rfl) (sha_Hex w22 h hh hb) ?_
        rintro _ w25 ⟨rfl, H1⟩
        refine ⟨_, rfl, fun _ => H1.keep, ?_⟩
        replace H := H.call H1
        simp only [List.nil_append] at H
        refine wc_ln (some 40) (hexF h) (by kernel_rfl) ?_
        refine wc_run (T' := [(4, .bool ((↑(hexF h).length : Int) == (64 : Int)))]) (L2 := (ol [])) 3 [4] (by kernel_rfl) ?_
        refine wc_nil rfl ?_
        refine n_np ?_
        refine n_sq ?_
        refine wn_ret (by kernel_rfl) ?_
        refine ret1 _ (Or.inr rfl) Try.results12 rfl ?_
        have he26 : true = ((↑(hexF h).length : Int) == (64 : Int)) := by
          simp_all
        exact ⟨by first | (rw [he26]; done) | (rw [he26]; rfl), H.nil⟩
      · rw [decide_eq_false hg24]
        refine wc_run (T' := [(37, .bool false), (38, .tuple #[])]) (L2 := (ol [26, 27, 28, 29, 30])) 1 [37, 38] (by kernel_rfl) ?_
        refine wc_skip (some 39) (by kernel_rfl) ?_
        refine wc_run (T' := [(4, .bool false)]) (L2 := (ol [])) 4 [4] (by kernel_rfl) ?_
        refine wc_nil rfl ?_
        refine n_np ?_
        refine n_sq ?_
        refine wn_ret (by kernel_rfl) ?_
        refine ret1 _ (Or.inr rfl) Try.results12 rfl ?_
        have he27 : true = false := by
          simp_all
        exact ⟨by first | (rw [he27]; done) | (rw [he27]; rfl), H.nil⟩
    · rw [decide_eq_false hg19]
      refine wc_run (T' := [(2, .pointer (some ⟨b1, 0, none⟩)), (30, .bool false), (31, .tuple #[]), (34, .tuple #[])]) (L2 := (ol [19, 20, 22, 23, 24, 25, 26, 27, 28, 29, 30])) 2 [2, 30, 31, 34] (by kernel_rfl) ?_
      refine wc_skip (some 32) (by kernel_rfl) ?_
      refine wc_skip (some 33) (by kernel_rfl) ?_
      refine wc_run (T' := [(37, .bool false), (38, .tuple #[])]) (L2 := (ol [26, 27, 28, 29, 30])) 4 [37, 38] (by kernel_rfl) ?_
      refine wc_skip (some 39) (by kernel_rfl) ?_
      refine wc_run (T' := [(4, .bool false)]) (L2 := (ol [])) 4 [4] (by kernel_rfl) ?_
      refine wc_nil rfl ?_
      refine n_np ?_
      refine n_sq ?_
      refine wn_ret (by kernel_rfl) ?_
      refine ret1 _ (Or.inr rfl) Try.results12 rfl ?_
      have he28 : true = false := by
        simp_all
      exact ⟨by first | (rw [he28]; done) | (rw [he28]; rfl), H.nil⟩
  · rw [hg14]
    try simp only [Bool.and_eq_true, Bool.or_eq_true, Bool.and_eq_false_iff, Bool.or_eq_false_iff, decide_eq_true_eq, decide_eq_false_iff_not, Bool.not_eq_true', Bool.not_eq_false', beq_iff_eq, bne_iff_ne, ne_eq, beq_eq_false_iff_ne, bne_eq_false_iff_eq, Decidable.not_not, cond_true, cond_false] at hg14
    refine wc_run (T' := [(2, .pointer (some ⟨b1, 0, none⟩)), (3, .pointer (some ⟨b3, 0, none⟩)), (23, .bool false), (24, .tuple #[]), (27, .tuple #[])]) (L2 := (ol [12, 13, 15, 16, 17, 18, 21, 19, 20, 22, 23, 24, 25, 26, 27, 28, 29, 30])) 2 [2, 3, 23, 24, 27] (by kernel_rfl) ?_
    refine wc_skip (some 25) (by kernel_rfl) ?_
    refine wc_skip (some 26) (by kernel_rfl) ?_
    refine wc_run (T' := [(2, .pointer (some ⟨b1, 0, none⟩)), (30, .bool false), (31, .tuple #[]), (34, .tuple #[])]) (L2 := (ol [19, 20, 22, 23, 24, 25, 26, 27, 28, 29, 30])) 5 [2, 30, 31, 34] (by kernel_rfl) ?_
    refine wc_skip (some 32) (by kernel_rfl) ?_
    refine wc_skip (some 33) (by kernel_rfl) ?_
    refine wc_run (T' := [(37, .bool false), (38, .tuple #[])]) (L2 := (ol [26, 27, 28, 29, 30])) 4 [37, 38] (by kernel_rfl) ?_
    refine wc_skip (some 39) (by kernel_rfl) ?_
    refine wc_run (T' := [(4, .bool false)]) (L2 := (ol [])) 4 [4] (by kernel_rfl) ?_
    refine wc_nil rfl ?_
    refine n_np ?_
    refine n_sq ?_
    refine wn_ret (by kernel_rfl) ?_
    refine ret1 _ (Or.inr rfl) Try.results12 rfl ?_
    have he29 : true = false := by
      simp_all
    exact ⟨by first | (rw [he29]; done) | (rw [he29]; rfl), H.nil⟩

noncomputable def cd_proctorlaw01_ShaTagged : Code := (Try.f10.body).getD .skip
theorem proctorlaw01_ShaTagged (w : World) (b : List Int) (B : Option Addr) (d : Nat) (x : List Int) (y : List Int) (hb : Rd w B (iv .u8 b)) (hn : b.length ≤ 140737488354000) (hx : x.length = 32) (hy : y.length = 32) :
    Calls Try.prog 10 #[.slice B b.length d, .agg (iv .u8 x).toArray, .agg (iv .u8 y).toArray] w (fun e w' => e = .returned (.bool true) ∧ Hp no w w' []) := by
  have hp := pair_rounds hx hy
  refine enter (args := [_, _, _]) (c := cd_proctorlaw01_ShaTagged) (N := 36) Try.func10 (by kernel_rfl) (by kernel_rfl) (by simp) ?_
  have H := Hp.start w
  refine wn_seq (by kernel_rfl) ?_
  refine wn_reg 3 (by kernel_rfl) ?_
  refine wc_new H (some 4) (row (iv .u8 x) 47) (fun r => .pointer (some ⟨r, 0, none⟩)) (by kernel_rfl) (fun b1 w2 H => ?_)
  refine wc_new H (some 5) (row (iv .u8 y) 47) (fun r => .pointer (some ⟨r, 0, none⟩)) (by kernel_rfl) (fun b3 w4 H => ?_)
  refine wc_run (T' := [(0, .slice B b.length d), (4, .pointer (some ⟨b1, 0, none⟩)), (5, .pointer (some ⟨b3, 0, none⟩))]) (L2 := (rng 3 0)) 1 [0, 4, 5] (by kernel_rfl) ?_
  refine wc_nil rfl ?_
  refine n_sq ?_
  refine wn_seq (by kernel_rfl) ?_
  refine wn_regD [] (ol [1, 3, 0, 2, 4, 5]) (by kernel_rfl) H (fun w5 H => ?_)
  refine wc_sl (some 9) (some ⟨b1, 0, none⟩) 32 32 1 none none none (some ⟨b1, 0, none⟩) 32 32 (by kernel_rfl) (by kernel_rfl) (by simp) (by decide) (by decide) (by decide) (by decide) (by decide) (by decide) (by exact slA_zero _ _ _) ?_
  refine wc_sl (some 11) (some ⟨b3, 0, none⟩) 32 32 1 none none none (some ⟨b3, 0, none⟩) 32 32 (by kernel_rfl) (by kernel_rfl) (by simp) (by decide) (by decide) (by decide) (by decide) (by decide) (by decide) (by exact slA_zero _ _ _) ?_
  refine wc_new H (some 8) (row ([.int .u8 1]) 5) (fun r => .slice (some ⟨r, 0, none⟩) 1 1) (by kernel_rfl) (fun b6 w7 H => ?_)
  replace H := H.toSl 0 1 1 (cs := (iv .u8 ([1]))) (e := 5) rfl (by rfl) (by decide)
  dsimp only [List.set] at H
  refine wc_appN H 0 (some 10) (A := (some ⟨b6, 0, none⟩)) (n := 1) (c := 1) (B := (some ⟨b1, 0, none⟩)) (mm := 32) (cc := 32) (t := 50) (e := 5) 1 1 (xs := (iv .u8 ([1]))) (ys := (iv .u8 x)) (zs := (iv .u8 (([1]) ++ x))) ((([1]) ++ x).length) (by kernel_rfl) rfl (Rd.of_ent H (k := 2) (off := 0) (n := 32) rfl (by exact List.take_of_length_le (Nat.le_of_eq (by exact (iv_length .u8 x).trans hx)))) (by simp [iv]; try first | omega | (simp only [List.length_append, List.length_cons, List.length_nil, List.length_set, List.length_replicate, List.length_drop, List.length_take, iv_length, Nat.zero_add] at * <;> omega)) (by first | exact iv_flat _ _ | simp [Value.oneCell']) (by first | omega | (simp only [List.length_append, List.length_cons, List.length_nil, List.length_set, List.length_replicate, List.length_drop, List.length_take, iv_length, Nat.zero_add] at * <;> omega)) (by simp [iv]) (by first | omega | (simp only [List.length_append, List.length_cons, List.length_nil, List.length_set, List.length_replicate, List.length_drop, List.length_take, iv_length, Nat.zero_add] at * <;> omega)) (fun A8 c9 w10 H => ?_)
  dsimp only [List.set] at H
  refine wc_appN H 0 (some 12) (A := A8) (n := ((([1]) ++ x).length)) (c := c9) (B := (some ⟨b3, 0, none⟩)) (mm := 32) (cc := 32) (t := 50) (e := 5) 1 1 (xs := (iv .u8 (([1]) ++ x))) (ys := (iv .u8 y)) (zs := (iv .u8 ((([1]) ++ x) ++ y))) (((([1]) ++ x) ++ y).length) (by kernel_rfl) rfl (Rd.of_ent H (k := 1) (off := 0) (n := 32) rfl (by exact List.take_of_length_le (Nat.le_of_eq (by exact (iv_length .u8 y).trans hy)))) (by simp [iv]; try first | omega | (simp only [List.length_append, List.length_cons, List.length_nil, List.length_set, List.length_replicate, List.length_drop, List.length_take, iv_length, Nat.zero_add] at * <;> omega)) (by first | exact iv_flat _ _ | simp [Value.oneCell']) (by first | omega | (simp only [List.length_append, List.length_cons, List.length_nil, List.length_set, List.length_replicate, List.length_drop, List.length_take, iv_length, Nat.zero_add] at * <;> omega)) (by simp [iv]) (by first | omega | (simp only [List.length_append, List.length_cons, List.length_nil, List.length_set, List.length_replicate, List.length_drop, List.length_take, iv_length, Nat.zero_add] at * <;> omega)) (fun A11 c12 w13 H => ?_)
  dsimp only [List.set] at H
  refine wc_run (T' := [(0, .slice B b.length d), (4, .pointer (some ⟨b1, 0, none⟩)), (5, .pointer (some ⟨b3, 0, none⟩)), (7, .slice A11 (((([1]) ++ x) ++ y).length) c12)]) (L2 := (ol [])) 1 [0, 4, 5, 7] (by kernel_rfl) ?_
  refine wc_nil rfl ?_
  refine n_np ?_
  refine n_sq ?_
  refine wn_seq (by kernel_rfl) ?_
  refine wn_reg 24 (by kernel_rfl) ?_
  refine wc_call (some 13) (by kernel_rfl) (law01_anchored w13) ?_
  rintro _ w14 ⟨rfl, H1⟩
  refine ⟨_, rfl, fun _ => H1.keep, ?_⟩
  replace H := H.call H1
  simp only [List.nil_append] at H
  refine wc_run (T' := [(0, .slice B b.length d), (4, .pointer (some ⟨b1, 0, none⟩)), (5, .pointer (some ⟨b3, 0, none⟩)), (7, .slice A11 (((([1]) ++ x) ++ y).length) c12), (14, .bool true), (15, .slice B b.length d)]) (L2 := (rng 3 21)) 2 [0, 4, 5, 7, 14, 15] (by kernel_rfl) ?_
  refine wc_call (some 16) (by kernel_rfl) (sha_Leaf w14 b B d (hb.keep H.keep) hn) ?_
  rintro _ w15 ⟨rfl, H1, hf16⟩
  refine ⟨_, rfl, fun _ => H1.keep, ?_⟩
  replace H := H.call H1
  simp only [List.nil_append] at H
  refine wc_new H (some 17) (row ([.int .u8 0]) 5) (fun r => .slice (some ⟨r, 0, none⟩) 1 1) (by kernel_rfl) (fun b17 w18 H => ?_)
  refine wc_run (T' := [(4, .pointer (some ⟨b1, 0, none⟩)), (5, .pointer (some ⟨b3, 0, none⟩)), (7, .slice A11 (((([1]) ++ x) ++ y).length) c12), (14, .bool true), (16, .agg (iv .u8 (shaF ([(0 : Int)] ++ b))).toArray), (17, .slice (some ⟨b17, 0, none⟩) 1 1), (18, .slice B b.length d)]) (L2 := (rng 6 18)) 1 [4, 5, 7, 14, 16, 17, 18] (by kernel_rfl) ?_
  replace H := H.toSl 0 1 1 (cs := (iv .u8 ([0]))) (e := 5) rfl (by rfl) (by decide)
  dsimp only [List.set] at H
  refine wc_appN H 0 (some 19) (A := (some ⟨b17, 0, none⟩)) (n := 1) (c := 1) (B := B) (mm := b.length) (cc := d) (t := 50) (e := 5) 1 1 (xs := (iv .u8 ([0]))) (ys := (iv .u8 b)) (zs := (iv .u8 (([0]) ++ b))) ((([0]) ++ b).length) (by kernel_rfl) rfl (hb.keep H.keep) (by simp [iv]; try first | omega | (simp only [List.length_append, List.length_cons, List.length_nil, List.length_set, List.length_replicate, List.length_drop, List.length_take, iv_length, Nat.zero_add] at * <;> omega)) (by first | exact iv_flat _ _ | simp [Value.oneCell']) (by first | omega | (simp only [List.length_append, List.length_cons, List.length_nil, List.length_set, List.length_replicate, List.length_drop, List.length_take, iv_length, Nat.zero_add] at * <;> omega)) (by simp [iv]) (by first | omega | (simp only [List.length_append, List.length_cons, List.length_nil, List.length_set, List.length_replicate, List.length_drop, List.length_take, iv_length, Nat.zero_add] at * <;> omega)) (fun A19 c20 w21 H => ?_)
  dsimp only [List.set] at H
  refine wc_call (some 20) (by kernel_rfl) (sha_Sum w21 (([0]) ++ b) A19 c20 (Rd.sl H 0 rfl) (by simp only [List.length_append, List.length_cons, List.length_nil]; omega)) ?_
  rintro _ w22 ⟨rfl, H1, hf23⟩
  refine ⟨_, rfl, fun _ => H1.keep, ?_⟩
  replace H := H.call H1
  simp only [List.nil_append] at H
  refine wc_eqA (c := true) 2 (some 21) 47 true (iv .u8 (shaF ([(0 : Int)] ++ b))) (iv .u8 (shaF (([0]) ++ b))) (by kernel_rfl) (by have h := EqV.arrC (P := Try.prog) (t := 47) (k := .u8) (n := 32) (by kernel_rfl) (shaF ([(0 : Int)] ++ b)) (shaF (([0]) ++ b)) (by exact hf16) (by exact hf23); rw [decide_eq_true rfl] at h; exact h) ?_
  simp only [if_true, Bool.false_eq_true, if_false, Bool.not_true]
  refine wc_run (T' := [(4, .pointer (some ⟨b1, 0, none⟩)), (5, .pointer (some ⟨b3, 0, none⟩)), (7, .slice A11 (((([1]) ++ x) ++ y).length) c12), (23, .bool true)]) (L2 := (rng 11 13)) 2 [4, 5, 7, 23] (by kernel_rfl) ?_
  refine wc_ld (b := b1) (off := 0) (some 24) 47 (.agg (iv .u8 x).toArray) (by kernel_rfl) (Ld.entW H 3 (n := 32) rfl (by kernel_rfl) (by exact (iv_length .u8 x).trans hx)) ?_
  refine wc_ld (b := b3) (off := 0) (some 25) 47 (.agg (iv .u8 y).toArray) (by kernel_rfl) (Ld.entW H 2 (n := 32) rfl (by kernel_rfl) (by exact (iv_length .u8 y).trans hy)) ?_
  refine wc_call (some 26) (by kernel_rfl) (sha_Pair w22 x y hx hy) ?_
  rintro _ w24 ⟨rfl, H1, hf25⟩
  refine ⟨_, rfl, fun _ => H1.keep, ?_⟩
  replace H := H.call H1
  simp only [List.nil_append] at H
  refine wc_run (T' := [(7, .slice A11 (((([1]) ++ x) ++ y).length) c12), (23, .bool true), (26, .agg (iv .u8 (shaF (([(1 : Int)] ++ x) ++ y))).toArray), (27, .slice A11 (((([1]) ++ x) ++ y).length) c12)]) (L2 := (rng 15 9)) 1 [7, 23, 26, 27] (by kernel_rfl) ?_
  refine wc_call (some 28) (by kernel_rfl) (sha_Sum w24 ((([1]) ++ x) ++ y) A11 c12 (Rd.sl H 1 rfl) (by simp only [List.length_append, List.length_cons, List.length_nil]; omega)) ?_
  rintro _ w26 ⟨rfl, H1, hf27⟩
  refine ⟨_, rfl, fun _ => H1.keep, ?_⟩
  replace H := H.call H1
  simp only [List.nil_append] at H
  refine wc_eqA (c := true) 2 (some 29) 47 true (iv .u8 (shaF (([(1 : Int)] ++ x) ++ y))) (iv .u8 (shaF ((([1]) ++ x) ++ y))) (by kernel_rfl) (by have h := EqV.arrC (P := Try.prog) (t := 47) (k := .u8) (n := 32) (by kernel_rfl) (shaF (([(1 : Int)] ++ x) ++ y)) (shaF ((([1]) ++ x) ++ y)) (by exact hf25) (by exact hf27); rw [decide_eq_true rfl] at h; exact h) ?_
  simp only [if_true, Bool.false_eq_true, if_false, Bool.not_true]
  refine wc_run (T' := [(31, .bool true), (32, .slice A11 (((([1]) ++ x) ++ y).length) c12)]) (L2 := (rng 20 4)) 3 [31, 32] (by kernel_rfl) ?_
  refine wc_call (some 33) (by kernel_rfl) (sha_Rounds w26 ((([1]) ++ x) ++ y) A11 c12 (by simp only [List.length_append, List.length_cons, List.length_nil]; omega)) ?_
  rintro _ w28 ⟨rfl, H1⟩
  refine ⟨_, rfl, fun _ => H1.keep, ?_⟩
  replace H := H.call H1
  simp only [List.nil_append] at H
  refine wc_run (T' := [(6, .bool ((((padF ((([1]) ++ x) ++ y)).length / 64 : Nat) : Int) == (2 : Int)))]) (L2 := (rng 24 0)) 3 [6] (by kernel_rfl) ?_
  refine wc_nil rfl ?_
  refine n_sq ?_
  refine wn_ret (by kernel_rfl) ?_
  refine ret1 _ (Or.inr rfl) Try.results10 rfl ?_
  have he29 : true = ((((padF ((([1]) ++ x) ++ y)).length / 64 : Nat) : Int) == (2 : Int)) := by
    simp_all
  exact ⟨by first | (rw [he29]; done) | (rw [he29]; rfl), H.nil⟩
end Go.Proofs.Ytfeecdcanjkohaa
