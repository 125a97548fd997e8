/-
  Walks of some of this seat's functions: each call's answer, and what it leaves of memory. No condition beside those that stand in each theorem.
-/
import Derived.Test.YtfeecdcanjkohaaRows
import Derived.Test.YtfeecdcanjkohaaSh3
set_option linter.all false
namespace Go.Proofs.Ytfeecdcanjkohaa
open Go.RowKit Go.Px

theorem rdM_rk (b : List Int) : 0 ≤ (rdM b).k ∧ (rdM b).k < 256 := by
  unfold rdM; split
  · show 0 ≤ IntKind.u8.wrap _ ∧ IntKind.u8.wrap _ < _
    rw [wrap8]; omega
  · show (0 : Int) ≤ 0 ∧ (0 : Int) < 256; omega
theorem mwW_g (b : List Int) (j : Nat) : 0 ≤ (mwW b).getD j 0 ∧ (mwW b).getD j 0 < 18446744073709551616 :=
  get_of_mem (p := fun x => 0 ≤ x ∧ x < 18446744073709551616) (l := mwW b) (by omega) (mwW_range b) j
theorem rdM_rf (b : List Int) : 0 ≤ (rdM b).f ∧ (rdM b).f < 18446744073709551616 := by
  unfold rdM; split
  · exact mwW_g b 1
  · show (0 : Int) ≤ 0 ∧ (0 : Int) < _; omega
theorem rdM_rt (b : List Int) : 0 ≤ (rdM b).t ∧ (rdM b).t < 18446744073709551616 := by
  unfold rdM; split
  · exact mwW_g b 2
  · show (0 : Int) ≤ 0 ∧ (0 : Int) < _; omega
theorem rdM_ra (b : List Int) : 0 ≤ (rdM b).a ∧ (rdM b).a < 18446744073709551616 := by
  unfold rdM; split
  · exact mwW_g b 3
  · show (0 : Int) ≤ 0 ∧ (0 : Int) < _; omega
theorem rdM_rn (b : List Int) : 0 ≤ (rdM b).n ∧ (rdM b).n < 18446744073709551616 := by
  unfold rdM; split
  · exact mwW_g b 4
  · show (0 : Int) ≤ 0 ∧ (0 : Int) < _; omega
theorem z32_r : ∀ j, 0 ≤ (List.replicate 32 (0 : Int)).getD j 0 ∧ (List.replicate 32 (0 : Int)).getD j 0 < 256 :=
  get_of_mem (p := fun x => 0 ≤ x ∧ x < 256) (by omega) (fun x hx => by simp at hx; omega)
theorem rdM_rx (b : List Int) : ∀ j, 0 ≤ (rdM b).x.getD j 0 ∧ (rdM b).x.getD j 0 < 256 := by
  unfold rdM; split
  · dsimp only
    exact get_of_mem (p := fun x => 0 ≤ x ∧ x < 256) (l := rdX b) (by omega) (by unfold rdX; exact frF_range _)
  · exact z32_r
theorem rdM_ry (b : List Int) : ∀ j, 0 ≤ (rdM b).y.getD j 0 ∧ (rdM b).y.getD j 0 < 256 := by
  unfold rdM; split
  · dsimp only
    exact get_of_mem (p := fun x => 0 ≤ x ∧ x < 256) (l := rdY b) (by omega) (by unfold rdY; exact frF_range _)
  · exact z32_r
theorem drop5 (k f t a n : Int) (X : List Int) : ([k, f, t, a, n] ++ X).drop 5 = X := rfl
theorem drop9 (k f t a n : Int) (X : List Int) : ([k, f, t, a, n] ++ X).drop 9 = X.drop 4 := rfl
theorem get5 (k f t a n : Int) (X : List Int) : ([k, f, t, a, n] ++ X).getD 0 0 = k ∧ ([k, f, t, a, n] ++ X).getD 1 0 = f ∧ ([k, f, t, a, n] ++ X).getD 2 0 = t ∧ ([k, f, t, a, n] ++ X).getD 3 0 = a ∧ ([k, f, t, a, n] ++ X).getD 4 0 = n := ⟨rfl, rfl, rfl, rfl, rfl⟩
theorem hash_back {x : List Int} (hx : x.length = 32) (hxb : ∀ j, 0 ≤ x.getD j 0 ∧ x.getD j 0 < 256) : frF 32 32 (wdF 4 32 x) = x := by
  have h := frF_bytes (w := wdF 4 32 x) (m := 4) (wdF_length _ _ _)
  have e1 := words_back (h := x) (m := 4) hx (mem_of_get (p := fun x => 0 ≤ x ∧ x < 256) hxb)
  rw [show 8 * 4 = 32 from rfl] at h e1
  rw [h, e1]
/-- What was written is read as it was. -/
theorem read_written {k f t a n : Int} {x y : List Int} (hx : x.length = 32) (hy : y.length = 32) (hk : 0 ≤ k ∧ k < 256) (hf : 0 ≤ f ∧ f < 18446744073709551616) (ht : 0 ≤ t ∧ t < 18446744073709551616) (ha : 0 ≤ a ∧ a < 18446744073709551616) (hn : 0 ≤ n ∧ n < 18446744073709551616)
    (hxb : ∀ j, 0 ≤ x.getD j 0 ∧ x.getD j 0 < 256) (hyb : ∀ j, 0 ≤ y.getD j 0 ∧ y.getD j 0 < 256) (hm : mayM k f t a n x y = true) :
    rdOk (wrM k f t a n x y) = true ∧ rdM (wrM k f t a n x y) = ⟨k, f, t, a, n, x, y⟩ := by
  have hw : wrM k f t a n x y = ([k, f, t, a, n] ++ wdF 4 32 x ++ wdF 4 32 y).flatMap ei8 := by
    have h := frF_bytes (w := [k, f, t, a, n] ++ wdF 4 32 x ++ wdF 4 32 y) (m := 13) (by simp [wdF_length])
    rw [show 8 * 13 = 104 from rfl] at h
    rw [← h, wr_bytes hx hy hxb hyb]
    unfold wrM; rw [if_pos hm]
  have hlen : (wrM k f t a n x y).length = 104 := by rw [wrM_len _ _ _ _ _ hx hy, if_pos hm]
  have hl : ([k, f, t, a, n] ++ wdF 4 32 x ++ wdF 4 32 y).length = 13 := by simp [wdF_length]
  have hW : mwW (wrM k f t a n x y) = [k, f, t, a, n] ++ wdF 4 32 x ++ wdF 4 32 y := by
    unfold mwW
    rw [if_pos hlen, hw]
    have := bytes_back (w := [k, f, t, a, n] ++ wdF 4 32 x ++ wdF 4 32 y) (m := 13) hl (by
      intro z hz
      simp only [List.mem_append, List.mem_cons, List.mem_nil_iff, or_false] at hz
      rcases hz with (h | h) | h
      · rcases h with rfl | rfl | rfl | rfl | rfl <;> omega
      · exact wdF_range _ _ _ z h
      · exact wdF_range _ _ _ z h)
    rw [show 8 * 13 = 104 from rfl] at this
    exact this
  have hE : mwE (wrM k f t a n x y) = 0 := by unfold mwE; rw [if_neg (by omega), if_neg (by omega)]
  have hX : rdX (wrM k f t a n x y) = x := by
    unfold rdX
    rw [hW, List.append_assoc, drop5]
    rw [List.take_append_of_le_length (by rw [wdF_length]; omega), List.take_of_length_le (by rw [wdF_length]; omega)]
    exact hash_back hx hxb
  have hY : rdY (wrM k f t a n x y) = y := by
    unfold rdY
    rw [hW, List.append_assoc, drop9]
    rw [List.drop_append_of_le_length (by rw [wdF_length]; omega), List.drop_eq_nil_of_le (by rw [wdF_length]; omega), List.nil_append, List.take_of_length_le (by rw [wdF_length]; omega)]
    exact hash_back hy hyb
  have hg := get5 k f t a n (wdF 4 32 x ++ wdF 4 32 y)
  rw [← List.append_assoc, ← hW] at hg
  obtain ⟨g0, g1, g2, g3, g4⟩ := hg
  have hk3 : k ≤ 3 := by
    unfold mayM at hm
    simp only [decide_eq_true_eq] at hm
    omega
  have hk8 : IntKind.u8.wrap k = k := by rw [wrap8]; omega
  have hOk : rdOk (wrM k f t a n x y) = true := by
    unfold rdOk
    rw [g0, g1, g2, g3, g4, hX, hY, hE, hk8, hm, decide_eq_true (by omega)]; rfl
  refine ⟨hOk, ?_⟩
  unfold rdM
  rw [if_pos hOk, g0, g1, g2, g3, g4, hX, hY, hk8]
theorem words_hash {w : List Int} (hl : w.length = 4) (hb : ∀ x ∈ w, 0 ≤ x ∧ x < 18446744073709551616) : wdF 4 32 (frF 32 32 w) = w := by
  have h := frF_bytes (w := w) (m := 4) hl
  have e := bytes_back (w := w) (m := 4) hl hb
  rw [show 8 * 4 = 32 from rfl] at h e
  rw [h, e]
/-- What was read is written as it was. -/
theorem written_read {b : List Int} (hr : ∀ j, 0 ≤ b.getD j 0 ∧ b.getD j 0 < 256) (h : rdOk b = true) :
    mayM (rdM b).k (rdM b).f (rdM b).t (rdM b).a (rdM b).n (rdM b).x (rdM b).y = true ∧ wrM (rdM b).k (rdM b).f (rdM b).t (rdM b).a (rdM b).n (rdM b).x (rdM b).y = b := by
  have hM : rdM b = ⟨IntKind.u8.wrap ((mwW b).getD 0 0), (mwW b).getD 1 0, (mwW b).getD 2 0, (mwW b).getD 3 0, (mwW b).getD 4 0, rdX b, rdY b⟩ := by unfold rdM; rw [if_pos h]
  have h' := h
  unfold rdOk at h'
  simp only [Bool.and_eq_true, decide_eq_true_eq] at h'
  obtain ⟨⟨h1, h2⟩, h3⟩ := h'
  have hlen : b.length = 104 := by
    unfold mwE at h1
    split at h1
    · omega
    · split at h1 <;> omega
  have hk8 : IntKind.u8.wrap ((mwW b).getD 0 0) = (mwW b).getD 0 0 := by rw [wrap8]; have := mwW_g b 0; omega
  rw [hM]
  dsimp only
  refine ⟨h3, ?_⟩
  unfold wrM
  rw [if_pos h3, hk8, ← wr_bytes (x := rdX b) (y := rdY b) (by unfold rdX; exact frF_length _ _ _) (by unfold rdY; exact frF_length _ _ _) (get_of_mem (p := fun x => 0 ≤ x ∧ x < 256) (by omega) (by unfold rdX; exact frF_range _)) (get_of_mem (p := fun x => 0 ≤ x ∧ x < 256) (by omega) (by unfold rdY; exact frF_range _))]
  have hX : wdF 4 32 (rdX b) = ((mwW b).drop 5).take 4 := words_hash (by simp [mwW_length]) (fun x hx => mwW_range b x (List.mem_of_mem_drop (List.mem_of_mem_take hx)))
  have hY : wdF 4 32 (rdY b) = ((mwW b).drop 9).take 4 := words_hash (by simp [mwW_length]) (fun x hx => mwW_range b x (List.mem_of_mem_drop (List.mem_of_mem_take hx)))
  rw [hX, hY]
  have hw : [(mwW b).getD 0 0, (mwW b).getD 1 0, (mwW b).getD 2 0, (mwW b).getD 3 0, (mwW b).getD 4 0] ++ ((mwW b).drop 5).take 4 ++ ((mwW b).drop 9).take 4 = mwW b := by
    have hl := mwW_length b
    generalize mwW b = w at hl
    match w, hl with
    | [a0, a1, a2, a3, a4, a5, a6, a7, a8, a9, a10, a11, a12], _ => rfl
  rw [hw]
  have h := frF_bytes (w := mwW b) (m := 13) (mwW_length b)
  rw [show 8 * 13 = 104 from rfl] at h
  rw [h]
  unfold mwW
  rw [if_pos hlen]
  exact words_back (m := 13) hlen (mem_of_get (p := fun x => 0 ≤ x ∧ x < 256) hr)

noncomputable def cd_proctorlaw07_anchored : Code := (Try.f27.body).getD .skip
theorem proctorlaw07_anchored (w : World)   :
    Calls Try.prog 27 #[] w (fun e w' => e = .returned (.bool true) ∧ Hp no w w' []) := by
  refine enter (args := []) (c := cd_proctorlaw07_anchored) (N := 46) Try.func27 (by kernel_rfl) (by kernel_rfl) (by simp) ?_
  have H := Hp.start w
  refine wn_seq (by kernel_rfl) ?_
  refine wn_reg 1 (by kernel_rfl) ?_
  refine wc_run (T' := []) (L2 := (rng 1 0)) 1 [] (by kernel_rfl) ?_
  refine wc_nil rfl ?_
  refine n_sq ?_
  refine wn_seq (by kernel_rfl) ?_
  refine wn_reg 7 (by kernel_rfl) ?_
  refine wc_run (T' := [(8, .agg ([.int .u8 1, .int .u64 0, .int .u64 3, .int .u64 5, .int .u64 0] ++ (iv .u8 (List.replicate 64 0)) : List Value).toArray)]) (L2 := (rng 1 6)) 1 [8] (by kernel_rfl) ?_
  refine wc_call (some 9) (by kernel_rfl) (msg_Write w (1 : Int) (0 : Int) (3 : Int) (5 : Int) (0 : Int) (List.replicate 32 0) (List.replicate 32 0) (List.length_replicate) (List.length_replicate) (by decide) (by decide) (by decide) (by decide) (by decide) z32_r z32_r) ?_
  rintro _ w3 ⟨A1, c2, rfl, H1, hf4, hf5, hf6⟩
  refine ⟨_, rfl, fun _ => H1.keep, ?_⟩
  replace H := H.call H1
  simp only [List.nil_append, List.cons_append] at H
  rw [show wrE (1 : Int) (0 : Int) (3 : Int) (5 : Int) (0 : Int) (List.replicate 32 0) (List.replicate 32 0) = (0 : Int) from by kernel_rfl]
  refine wc_run (T' := [(1, .slice A1 ((wrM (1 : Int) (0 : Int) (3 : Int) (5 : Int) (0 : Int) (List.replicate 32 0) (List.replicate 32 0)).length) c2), (2, .int .i64 0)]) (L2 := (rng 7 0)) 5 [1, 2] (by kernel_rfl) ?_
  refine wc_nil rfl ?_
  refine n_sq ?_
  refine wn_seq (by kernel_rfl) ?_
  refine wn_reg 8 (by kernel_rfl) ?_
  refine wc_run (T' := [(1, .slice A1 ((wrM (1 : Int) (0 : Int) (3 : Int) (5 : Int) (0 : Int) (List.replicate 32 0) (List.replicate 32 0)).length) c2), (2, .int .i64 0), (13, .slice A1 ((wrM (1 : Int) (0 : Int) (3 : Int) (5 : Int) (0 : Int) (List.replicate 32 0) (List.replicate 32 0)).length) c2)]) (L2 := (rng 1 7)) 1 [1, 2, 13] (by kernel_rfl) ?_
  refine wc_call (some 14) (by kernel_rfl) (msg_Words w3 (wrM (1 : Int) (0 : Int) (3 : Int) (5 : Int) (0 : Int) (List.replicate 32 0) (List.replicate 32 0)) A1 c2 (Rd.sl H 0 rfl) hf5 (by first | with_reducible assumption | omega | (simp_all; done))) ?_
  rintro _ w7 ⟨rfl, H1, hf8⟩
  refine ⟨_, rfl, fun _ => H1.keep, ?_⟩
  replace H := H.call H1
  simp only [List.nil_append] at H
  rw [show mwW (wrM (1 : Int) (0 : Int) (3 : Int) (5 : Int) (0 : Int) (List.replicate 32 0) (List.replicate 32 0)) = [1, 0, 3, 5, 0, 0, 0, 0, 0, 0, 0, 0, 0] from by kernel_rfl]
  rw [show mwE (wrM (1 : Int) (0 : Int) (3 : Int) (5 : Int) (0 : Int) (List.replicate 32 0) (List.replicate 32 0)) = (0 : Int) from by kernel_rfl]
  refine wc_run (T' := [(1, .slice A1 ((wrM (1 : Int) (0 : Int) (3 : Int) (5 : Int) (0 : Int) (List.replicate 32 0) (List.replicate 32 0)).length) c2), (2, .int .i64 0), (15, .agg (iv .u64 ([1, 0, 3, 5, 0, 0, 0, 0, 0, 0, 0, 0, 0])).toArray), (16, .int .i64 0)]) (L2 := (rng 5 3)) 3 [1, 2, 15, 16] (by kernel_rfl) ?_
  refine wc_new H (some 3) (row (iv .u64 (List.replicate 13 0)) 61) (fun r => .pointer (some ⟨r, 0, none⟩)) (by kernel_rfl) (fun b9 w10 H => ?_)
  refine wc_st (b := b9) (off := 0) (Tb := 61) (vs := (iv .u64 ([1, 0, 3, 5, 0, 0, 0, 0, 0, 0, 0, 0, 0]))) (cs' := (iv .u64 ([1, 0, 3, 5, 0, 0, 0, 0, 0, 0, 0, 0, 0]))) H 0 61 (.agg (iv .u64 ([1, 0, 3, 5, 0, 0, 0, 0, 0, 0, 0, 0, 0])).toArray) 13 (by kernel_rfl) rfl rfl (by first | (simp only [iv_length, List.length_set, List.length_replicate, *]; done) | (simp [iv_length, *]; done) | (simp [Value.cells, iv_length, *]; done) | omega | (simp [Value.cells, iv_length] <;> omega)) (by have h := (iv_length .u64 (List.replicate 13 0)).trans List.length_replicate; omega) (by exact iv_flat _ _) (by first | rfl | exact blit_all _ _ (by first | (simp only [iv_length, List.length_set, List.length_replicate, *]; done) | (simp [iv_length, *]; done) | (simp [Value.cells, iv_length, *]; done) | omega | (simp [Value.cells, iv_length] <;> omega)) | (simp [blit, List.drop_append, List.take_append, iv_length, *]; done)) (fun w11 H => ?_)
  dsimp only [List.set] at H
  refine wc_run (T' := [(1, .slice A1 ((wrM (1 : Int) (0 : Int) (3 : Int) (5 : Int) (0 : Int) (List.replicate 32 0) (List.replicate 32 0)).length) c2), (2, .int .i64 0), (3, .pointer (some ⟨b9, 0, none⟩)), (4, .int .i64 0)]) (L2 := (rng 8 0)) 1 [1, 2, 3, 4] (by kernel_rfl) ?_
  refine wc_nil rfl ?_
  refine n_sq ?_
  refine wn_seq (by kernel_rfl) ?_
  refine wn_reg 8 (by kernel_rfl) ?_
  refine wc_mk H (some 18) 104 5 1 1 [.int .u8 0] (by kernel_rfl) (by first | omega | (simp only [List.length_append, List.length_cons, List.length_nil, List.length_set, List.length_replicate, List.length_drop, List.length_take, iv_length, Nat.zero_add] at * <;> omega)) (fun A12 w13 H => ?_)
  rw [zrep_iv] at H
  refine wc_call (some 19) (by kernel_rfl) (msg_Read w13 (List.replicate 104 0) A12 104 (Rd.sl H 0 rfl) (get_of_mem (p := fun x => 0 ≤ x ∧ x < 256) (by omega) (fun x hx => by simp at hx; omega)) (by decide)) ?_
  rintro _ w15 ⟨rfl, H1, hf16, hf17⟩
  refine ⟨_, rfl, fun _ => H1.keep, ?_⟩
  replace H := H.call H1
  simp only [List.nil_append] at H
  rw [show rdE (List.replicate 104 0) = (8 : Int) from by kernel_rfl]
  refine wc_run (T' := [(1, .slice A1 ((wrM (1 : Int) (0 : Int) (3 : Int) (5 : Int) (0 : Int) (List.replicate 32 0) (List.replicate 32 0)).length) c2), (2, .int .i64 0), (3, .pointer (some ⟨b9, 0, none⟩)), (4, .int .i64 0), (20, .agg ([.int .u8 ((rdM (List.replicate 104 0)).k), .int .u64 ((rdM (List.replicate 104 0)).f), .int .u64 ((rdM (List.replicate 104 0)).t), .int .u64 ((rdM (List.replicate 104 0)).a), .int .u64 ((rdM (List.replicate 104 0)).n)] ++ ((iv .u8 ((rdM (List.replicate 104 0)).x)) ++ (iv .u8 ((rdM (List.replicate 104 0)).y))) : List Value).toArray), (21, .int .i64 8)]) (L2 := (rng 5 3)) 3 [1, 2, 3, 4, 20, 21] (by kernel_rfl) ?_
  refine wc_new H (some 5) (row ([.int .u8 0] ++ ((iv .u64 (List.replicate 4 0)) ++ (iv .u8 (List.replicate 64 0)))) 49) (fun r => .pointer (some ⟨r, 0, none⟩)) (by kernel_rfl) (fun b18 w19 H => ?_)
  refine wc_st (b := b18) (off := 0) (Tb := 49) (vs := ([.int .u8 ((rdM (List.replicate 104 0)).k), .int .u64 ((rdM (List.replicate 104 0)).f), .int .u64 ((rdM (List.replicate 104 0)).t), .int .u64 ((rdM (List.replicate 104 0)).a), .int .u64 ((rdM (List.replicate 104 0)).n)] ++ ((iv .u8 ((rdM (List.replicate 104 0)).x)) ++ (iv .u8 ((rdM (List.replicate 104 0)).y))))) (cs' := ([.int .u8 ((rdM (List.replicate 104 0)).k), .int .u64 ((rdM (List.replicate 104 0)).f), .int .u64 ((rdM (List.replicate 104 0)).t), .int .u64 ((rdM (List.replicate 104 0)).a), .int .u64 ((rdM (List.replicate 104 0)).n)] ++ ((iv .u8 ((rdM (List.replicate 104 0)).x)) ++ (iv .u8 ((rdM (List.replicate 104 0)).y))))) H 0 49 (.agg ([.int .u8 ((rdM (List.replicate 104 0)).k), .int .u64 ((rdM (List.replicate 104 0)).f), .int .u64 ((rdM (List.replicate 104 0)).t), .int .u64 ((rdM (List.replicate 104 0)).a), .int .u64 ((rdM (List.replicate 104 0)).n)] ++ ((iv .u8 ((rdM (List.replicate 104 0)).x)) ++ (iv .u8 ((rdM (List.replicate 104 0)).y))) : List Value).toArray) 69 (by kernel_rfl) rfl rfl (by exact (lenA (rfl : ([.int .u8 ((rdM (List.replicate 104 0)).k), .int .u64 ((rdM (List.replicate 104 0)).f), .int .u64 ((rdM (List.replicate 104 0)).t), .int .u64 ((rdM (List.replicate 104 0)).a), .int .u64 ((rdM (List.replicate 104 0)).n)] : List Value).length = 5) (lenA ((iv_length .u8 ((rdM (List.replicate 104 0)).x)).trans hf16) ((iv_length .u8 ((rdM (List.replicate 104 0)).y)).trans hf17)))) (by have h : ([.int .u8 0] ++ ((iv .u64 (List.replicate 4 0)) ++ (iv .u8 (List.replicate 64 0))) : List Value).length = 69 := (lenA (rfl : ([.int .u8 0] : List Value).length = 1) (lenA ((iv_length .u64 (List.replicate 4 0)).trans List.length_replicate) ((iv_length .u8 (List.replicate 64 0)).trans List.length_replicate))); omega) (by exact (flA (by simp [Value.oneCell']) (flA (iv_flat _ _) (iv_flat _ _)))) (by exact blit_all _ _ ((show ([.int .u8 ((rdM (List.replicate 104 0)).k), .int .u64 ((rdM (List.replicate 104 0)).f), .int .u64 ((rdM (List.replicate 104 0)).t), .int .u64 ((rdM (List.replicate 104 0)).a), .int .u64 ((rdM (List.replicate 104 0)).n)] ++ ((iv .u8 ((rdM (List.replicate 104 0)).x)) ++ (iv .u8 ((rdM (List.replicate 104 0)).y))) : List Value).length = 69 from (lenA (rfl : ([.int .u8 ((rdM (List.replicate 104 0)).k), .int .u64 ((rdM (List.replicate 104 0)).f), .int .u64 ((rdM (List.replicate 104 0)).t), .int .u64 ((rdM (List.replicate 104 0)).a), .int .u64 ((rdM (List.replicate 104 0)).n)] : List Value).length = 5) (lenA ((iv_length .u8 ((rdM (List.replicate 104 0)).x)).trans hf16) ((iv_length .u8 ((rdM (List.replicate 104 0)).y)).trans hf17)))).trans (show ([.int .u8 0] ++ ((iv .u64 (List.replicate 4 0)) ++ (iv .u8 (List.replicate 64 0))) : List Value).length = 69 from (lenA (rfl : ([.int .u8 0] : List Value).length = 1) (lenA ((iv_length .u64 (List.replicate 4 0)).trans List.length_replicate) ((iv_length .u8 (List.replicate 64 0)).trans List.length_replicate)))).symm)) (fun w20 H => ?_)
  dsimp only [List.set] at H
  refine wc_run (T' := [(1, .slice A1 ((wrM (1 : Int) (0 : Int) (3 : Int) (5 : Int) (0 : Int) (List.replicate 32 0) (List.replicate 32 0)).length) c2), (2, .int .i64 0), (3, .pointer (some ⟨b9, 0, none⟩)), (4, .int .i64 0), (6, .int .i64 8)]) (L2 := (rng 8 0)) 1 [1, 2, 3, 4, 6] (by kernel_rfl) ?_
  refine wc_nil rfl ?_
  refine n_sq ?_
  refine wn_seq (by kernel_rfl) ?_
  refine wn_reg 25 (by kernel_rfl) ?_
  refine wc_run (T' := [(3, .pointer (some ⟨b9, 0, none⟩)), (37, .bool ((↑((wrM (1 : Int) (0 : Int) (3 : Int) (5 : Int) (0 : Int) (List.replicate 32 0) (List.replicate 32 0)).length) : Int) == (104 : Int)))]) (L2 := (rng 16 9)) 16 [3, 37] (by kernel_rfl) ?_
  refine wc_if ((↑((wrM (1 : Int) (0 : Int) (3 : Int) (5 : Int) (0 : Int) (List.replicate 32 0) (List.replicate 32 0)).length) : Int) == (104 : Int)) (rng 20 5) ([(41, .bool ((↑((wrM (1 : Int) (0 : Int) (3 : Int) (5 : Int) (0 : Int) (List.replicate 32 0) (List.replicate 32 0)).length) : Int) == (104 : Int)))]) (fun hg21 K => ?_) (fun hg21 K => ?_) ?_
  · rw [hg21] at K ⊢
    have hg21 := eq_of_beq hg21
    refine wc_ld (b := b9) (off := 0) (some 38) 61 (.agg (iv .u64 ([1, 0, 3, 5, 0, 0, 0, 0, 0, 0, 0, 0, 0])).toArray) (by kernel_rfl) (Ld.entW H 2 (n := 13) rfl (by kernel_rfl) (by first | (simp only [iv_length, List.length_set, List.length_replicate, *]; done) | (simp [iv_length, *]; done) | (simp [Value.cells, iv_length, *]; done) | omega | (simp [Value.cells, iv_length] <;> omega))) ?_
    refine wc_run (T' := [(37, .bool true), (38, .agg (iv .u64 ([1, 0, 3, 5, 0, 0, 0, 0, 0, 0, 0, 0, 0])).toArray), (39, .agg #[.int .u64 1, .int .u64 0, .int .u64 3, .int .u64 5, .int .u64 0, .int .u64 0, .int .u64 0, .int .u64 0, .int .u64 0, .int .u64 0, .int .u64 0, .int .u64 0, .int .u64 0])]) (L2 := (rng 18 7)) 1 [37, 38, 39] (by kernel_rfl) ?_
    refine wc_eqA (c := true) 2 (some 40) 61 true (iv .u64 ([1, 0, 3, 5, 0, 0, 0, 0, 0, 0, 0, 0, 0])) ([.int .u64 1, .int .u64 0, .int .u64 3, .int .u64 5, .int .u64 0, .int .u64 0, .int .u64 0, .int .u64 0, .int .u64 0, .int .u64 0, .int .u64 0, .int .u64 0, .int .u64 0]) (by kernel_rfl) (by have h := EqV.arrC (P := Try.prog) (t := 61) (k := .u64) (n := 13) (by kernel_rfl) ([1, 0, 3, 5, 0, 0, 0, 0, 0, 0, 0, 0, 0]) ([1, 0, 3, 5, 0, 0, 0, 0, 0, 0, 0, 0, 0]) (by rfl) (by rfl); rw [decide_eq_true rfl] at h; exact h) ?_
    simp only [if_true, Bool.false_eq_true, if_false, Bool.not_true]
    refine wc_run (T' := [(41, .bool true)]) (L2 := (rng 20 5)) 1 [41] (by kernel_rfl) ?_
    exact K
  · rw [hg21] at K ⊢
    have hg21 := ne_of_beq_false hg21
    refine wc_run (T' := [(41, .bool false)]) (L2 := (rng 20 5)) 4 [41] (by kernel_rfl) ?_
    exact K
  refine wc_run (T' := [(42, .bool ((↑((wrM (1 : Int) (0 : Int) (3 : Int) (5 : Int) (0 : Int) (List.replicate 32 0) (List.replicate 32 0)).length) : Int) == (104 : Int)))]) (L2 := (rng 21 4)) 1 [42] (by kernel_rfl) ?_
  refine wc_if ((↑((wrM (1 : Int) (0 : Int) (3 : Int) (5 : Int) (0 : Int) (List.replicate 32 0) (List.replicate 32 0)).length) : Int) == (104 : Int)) (rng 22 3) ([(43, .bool ((↑((wrM (1 : Int) (0 : Int) (3 : Int) (5 : Int) (0 : Int) (List.replicate 32 0) (List.replicate 32 0)).length) : Int) == (104 : Int)))]) (fun hg22 K => ?_) (fun hg22 K => ?_) ?_
  · rw [hg22] at K ⊢
    have hg22 := eq_of_beq hg22
    refine wc_run (T' := [(43, .bool true)]) (L2 := (rng 22 3)) 1 [43] (by kernel_rfl) ?_
    exact K
  · rw [hg22] at K ⊢
    have hg22 := ne_of_beq_false hg22
    refine wc_run (T' := [(43, .bool false)]) (L2 := (rng 22 3)) 1 [43] (by kernel_rfl) ?_
    exact K
  refine wc_run (T' := [(44, .bool ((↑((wrM (1 : Int) (0 : Int) (3 : Int) (5 : Int) (0 : Int) (List.replicate 32 0) (List.replicate 32 0)).length) : Int) == (104 : Int)))]) (L2 := (rng 23 2)) 1 [44] (by kernel_rfl) ?_
  refine wc_if ((↑((wrM (1 : Int) (0 : Int) (3 : Int) (5 : Int) (0 : Int) (List.replicate 32 0) (List.replicate 32 0)).length) : Int) == (104 : Int)) (rng 24 1) ([(45, .bool ((↑((wrM (1 : Int) (0 : Int) (3 : Int) (5 : Int) (0 : Int) (List.replicate 32 0) (List.replicate 32 0)).length) : Int) == (104 : Int)))]) (fun hg23 K => ?_) (fun hg23 K => ?_) ?_
  · rw [hg23] at K ⊢
    have hg23 := eq_of_beq hg23
    refine wc_run (T' := [(45, .bool true)]) (L2 := (rng 24 1)) 1 [45] (by kernel_rfl) ?_
    exact K
  · rw [hg23] at K ⊢
    have hg23 := ne_of_beq_false hg23
    refine wc_run (T' := [(45, .bool false)]) (L2 := (rng 24 1)) 1 [45] (by kernel_rfl) ?_
    exact K
  refine wc_run (T' := [(0, .bool ((↑((wrM (1 : Int) (0 : Int) (3 : Int) (5 : Int) (0 : Int) (List.replicate 32 0) (List.replicate 32 0)).length) : Int) == (104 : Int)))]) (L2 := (rng 25 0)) 1 [0] (by kernel_rfl) ?_
  refine wc_nil rfl ?_
  refine n_sq ?_
  refine wn_ret (by kernel_rfl) ?_
  refine ret1 _ (Or.inr rfl) Try.results27 rfl ?_
  have he24 : true = ((↑((wrM (1 : Int) (0 : Int) (3 : Int) (5 : Int) (0 : Int) (List.replicate 32 0) (List.replicate 32 0)).length) : Int) == (104 : Int)) := by
    kernel_rfl
  exact ⟨by first | (rw [he24]; done) | (rw [he24]; rfl), H.nil⟩

noncomputable def cd_proctorlaw07_MsgWrites : Code := (Try.f5.body).getD .skip
theorem proctorlaw07_MsgWrites (w : World) (k : Int) (f : Int) (t : Int) (a : Int) (n : Int) (x : List Int) (y : List Int) (hx : x.length = 32) (hy : y.length = 32) (hk : 0 ≤ k ∧ k < 256) (hf : 0 ≤ f ∧ f < 18446744073709551616) (ht : 0 ≤ t ∧ t < 18446744073709551616) (ha : 0 ≤ a ∧ a < 18446744073709551616) (hn : 0 ≤ n ∧ n < 18446744073709551616) (hxb : ∀ j, 0 ≤ x.getD j 0 ∧ x.getD j 0 < 256) (hyb : ∀ j, 0 ≤ y.getD j 0 ∧ y.getD j 0 < 256) :
    Calls Try.prog 5 #[.agg ([.int .u8 k, .int .u64 f, .int .u64 t, .int .u64 a, .int .u64 n] ++ ((iv .u8 x) ++ (iv .u8 y)) : List Value).toArray] w (fun e w' => e = .returned (.bool true) ∧ Hp no w w' []) := by
  refine enter (args := [_]) (c := cd_proctorlaw07_MsgWrites) (N := 35) Try.func5 (by kernel_rfl) (by kernel_rfl) (by simp) ?_
  have H := Hp.start w
  refine wn_seq (by kernel_rfl) ?_
  refine wn_reg 2 (by kernel_rfl) ?_
  refine wc_new H (some 1) (row ([.int .u8 k, .int .u64 f, .int .u64 t, .int .u64 a, .int .u64 n] ++ ((iv .u8 x) ++ (iv .u8 y))) 49) (fun r => .pointer (some ⟨r, 0, none⟩)) (by kernel_rfl) (fun b1 w2 H => ?_)
  refine wc_run (T' := [(1, .pointer (some ⟨b1, 0, none⟩))]) (L2 := (rng 2 0)) 1 [1] (by kernel_rfl) ?_
  refine wc_nil rfl ?_
  refine n_sq ?_
  refine wn_seq (by kernel_rfl) ?_
  refine wn_reg 7 (by kernel_rfl) ?_
  refine wc_ld (b := b1) (off := 0) (some 8) 49 (.agg ([.int .u8 k, .int .u64 f, .int .u64 t, .int .u64 a, .int .u64 n] ++ ((iv .u8 x) ++ (iv .u8 y)) : List Value).toArray) (by kernel_rfl) (Ld.entW H 0 (n := 69) rfl (by kernel_rfl) (by exact (lenA (rfl : ([.int .u8 k, .int .u64 f, .int .u64 t, .int .u64 a, .int .u64 n] : List Value).length = 5) (lenA ((iv_length .u8 x).trans hx) ((iv_length .u8 y).trans hy))))) ?_
  refine wc_call (some 9) (by kernel_rfl) (msg_Write w2 k f t a n x y hx hy hk hf ht ha hn hxb hyb) ?_
  rintro _ w5 ⟨A3, c4, rfl, H1, hf6, hf7, hf8⟩
  refine ⟨_, rfl, fun _ => H1.keep, ?_⟩
  replace H := H.call H1
  simp only [List.nil_append, List.cons_append] at H
  refine wc_run (T' := [(1, .pointer (some ⟨b1, 0, none⟩)), (3, .slice A3 ((wrM k f t a n x y).length) c4), (4, .int .i64 (wrE k f t a n x y))]) (L2 := (rng 7 0)) 5 [1, 3, 4] (by kernel_rfl) ?_
  refine wc_nil rfl ?_
  refine n_sq ?_
  refine wn_seq (by kernel_rfl) ?_
  refine wn_reg 7 (by kernel_rfl) ?_
  refine wc_ld (b := b1) (off := 0) (some 13) 49 (.agg ([.int .u8 k, .int .u64 f, .int .u64 t, .int .u64 a, .int .u64 n] ++ ((iv .u8 x) ++ (iv .u8 y)) : List Value).toArray) (by kernel_rfl) (Ld.entW H 1 (n := 69) rfl (by kernel_rfl) (by exact (lenA (rfl : ([.int .u8 k, .int .u64 f, .int .u64 t, .int .u64 a, .int .u64 n] : List Value).length = 5) (lenA ((iv_length .u8 x).trans hx) ((iv_length .u8 y).trans hy))))) ?_
  refine wc_call (some 14) (by kernel_rfl) (proctorref07_Write w5 k f t a n x y hx hy hk hf ht ha hn hxb hyb) ?_
  rintro _ w11 ⟨A9, c10, rfl, H1, hf12, hf13, hf14⟩
  refine ⟨_, rfl, fun _ => H1.keep, ?_⟩
  replace H := H.call H1
  simp only [List.nil_append, List.cons_append] at H
  refine wc_run (T' := [(1, .pointer (some ⟨b1, 0, none⟩)), (3, .slice A3 ((wrM k f t a n x y).length) c4), (4, .int .i64 (wrE k f t a n x y)), (5, .slice A9 ((wrM k f t a n x y).length) c10), (6, .int .i64 (wrE k f t a n x y))]) (L2 := (rng 7 0)) 5 [1, 3, 4, 5, 6] (by kernel_rfl) ?_
  refine wc_nil rfl ?_
  refine n_sq ?_
  refine wn_seq (by kernel_rfl) ?_
  refine wn_regD [] (ol [0, 2, 1, 3, 4, 5, 6, 7, 8, 9, 10, 11, 12, 13, 14, 15, 16, 17, 18]) (by kernel_rfl) H (fun w15 H => ?_)
  refine wc_ld (b := b1) (off := 0) (some 17) 49 (.agg ([.int .u8 k, .int .u64 f, .int .u64 t, .int .u64 a, .int .u64 n] ++ ((iv .u8 x) ++ (iv .u8 y)) : List Value).toArray) (by kernel_rfl) (Ld.entW H 2 (n := 69) rfl (by kernel_rfl) (by exact (lenA (rfl : ([.int .u8 k, .int .u64 f, .int .u64 t, .int .u64 a, .int .u64 n] : List Value).length = 5) (lenA ((iv_length .u8 x).trans hx) ((iv_length .u8 y).trans hy))))) ?_
  refine wc_ld (b := b1) (off := 0) (some 19) 49 (.agg ([.int .u8 k, .int .u64 f, .int .u64 t, .int .u64 a, .int .u64 n] ++ ((iv .u8 x) ++ (iv .u8 y)) : List Value).toArray) (by kernel_rfl) (Ld.entW H 2 (n := 69) rfl (by kernel_rfl) (by exact (lenA (rfl : ([.int .u8 k, .int .u64 f, .int .u64 t, .int .u64 a, .int .u64 n] : List Value).length = 5) (lenA ((iv_length .u8 x).trans hx) ((iv_length .u8 y).trans hy))))) ?_
  refine wc_call (some 18) (by kernel_rfl) (msg_May w15 k f t a n x y hx hy hk hf ht ha hn hxb hyb) ?_
  rintro _ w16 ⟨rfl, H1⟩
  refine ⟨_, rfl, fun _ => H1.keep, ?_⟩
  replace H := H.call H1
  simp only [List.nil_append] at H
  refine wc_call (some 20) (by kernel_rfl) (proctorref07_May w16 k f t a n x y hx hy hk hf ht ha hn hxb hyb) ?_
  rintro _ w17 ⟨rfl, H1⟩
  refine ⟨_, rfl, fun _ => H1.keep, ?_⟩
  replace H := H.call H1
  simp only [List.nil_append] at H
  refine wc_run (T' := [(3, .slice A3 ((wrM k f t a n x y).length) c4), (4, .int .i64 (wrE k f t a n x y)), (5, .slice A9 ((wrM k f t a n x y).length) c10), (6, .int .i64 (wrE k f t a n x y)), (22, .bool ((mayM k f t a n x y) == (mayM k f t a n x y)))]) (L2 := (ol [6, 7, 8, 9, 10, 11, 12, 13, 14, 15, 16, 17, 18])) 2 [3, 4, 5, 6, 22] (by kernel_rfl) ?_
  rcases Bool.eq_false_or_eq_true ((mayM k f t a n x y) == (mayM k f t a n x y)) with hg18 | hg18
  · rw [hg18]
    have hg18 := eq_of_beq hg18
    refine wc_run (T' := [(4, .int .i64 (wrE k f t a n x y)), (6, .int .i64 (wrE k f t a n x y)), (22, .bool true), (23, .slice A3 ((wrM k f t a n x y).length) c4), (24, .slice A9 ((wrM k f t a n x y).length) c10)]) (L2 := (ol [8, 9, 10, 11, 12, 13, 14, 15, 16, 17, 18])) 2 [4, 6, 22, 23, 24] (by kernel_rfl) ?_
    refine wc_call (some 25) (by kernel_rfl) (proctorref01_Same w17 (wrM k f t a n x y) A3 c4 (wrM k f t a n x y) A9 c10 (Rd.sl H 1 rfl) (Rd.sl H 0 rfl) (by first | with_reducible assumption | omega | (simp_all; done)) (by first | with_reducible assumption | omega | (simp_all; done))) ?_
    rintro _ w19 ⟨rfl, H1⟩
    refine ⟨_, rfl, fun _ => H1.keep, ?_⟩
    replace H := H.call H1
    simp only [List.nil_append] at H
    refine wc_run (T' := [(4, .int .i64 (wrE k f t a n x y)), (6, .int .i64 (wrE k f t a n x y)), (27, .bool (decide ((wrM k f t a n x y) = (wrM k f t a n x y))))]) (L2 := (ol [11, 12, 13, 14, 15, 16, 17, 18])) 2 [4, 6, 27] (by kernel_rfl) ?_
    refine wc_if (decide ((wrM k f t a n x y) = (wrM k f t a n x y))) (ol [15, 16, 17, 18]) ([(31, .bool ((decide ((wrM k f t a n x y) = (wrM k f t a n x y))) && ((wrE k f t a n x y) == (wrE k f t a n x y))))]) (fun hg20 K => ?_) (fun hg20 K => ?_) ?_
    · rw [hg20] at K ⊢
      have hg20 := of_decide_eq_true hg20
      refine wc_run (T' := [(31, .bool ((wrE k f t a n x y) == (wrE k f t a n x y)))]) (L2 := (ol [15, 16, 17, 18])) 4 [31] (by kernel_rfl) ?_
      exact K
    · rw [hg20] at K ⊢
      have hg20 := of_decide_eq_false hg20
      refine wc_run (T' := [(31, .bool false)]) (L2 := (ol [15, 16, 17, 18])) 4 [31] (by kernel_rfl) ?_
      exact K
    refine wc_run (T' := [(32, .bool ((decide ((wrM k f t a n x y) = (wrM k f t a n x y))) && ((wrE k f t a n x y) == (wrE k f t a n x y))))]) (L2 := (ol [16, 17, 18])) 1 [32] (by kernel_rfl) ?_
    rcases Bool.eq_false_or_eq_true ((decide ((wrM k f t a n x y) = (wrM k f t a n x y))) && ((wrE k f t a n x y) == (wrE k f t a n x y))) with hg21 | hg21
    · rw [hg21]
      try simp only [Bool.and_eq_true, Bool.or_eq_true, Bool.and_eq_false_iff, Bool.or_eq_false_iff, decide_eq_true_eq, decide_eq_false_iff_not, Bool.not_eq_true', Bool.not_eq_false', beq_iff_eq, bne_iff_ne, ne_eq, beq_eq_false_iff_ne, bne_eq_false_iff_eq, Decidable.not_not, cond_true, cond_false] at hg21
      refine wc_call (some 33) (by kernel_rfl) (proctorlaw07_anchored w19) ?_
      rintro _ w22 ⟨rfl, H1⟩
      refine ⟨_, rfl, fun _ => H1.keep, ?_⟩
      replace H := H.call H1
      simp only [List.nil_append] at H
      refine wc_run (T' := [(2, .bool true)]) (L2 := (ol [])) 2 [2] (by kernel_rfl) ?_
      refine wc_nil rfl ?_
      refine n_np ?_
      refine n_sq ?_
      refine wn_ret (by kernel_rfl) ?_
      refine ret1 _ (Or.inr rfl) Try.results5 rfl ?_
      exact ⟨rfl, H.nil⟩
    · rw [hg21]
      try simp only [Bool.and_eq_true, Bool.or_eq_true, Bool.and_eq_false_iff, Bool.or_eq_false_iff, decide_eq_true_eq, decide_eq_false_iff_not, Bool.not_eq_true', Bool.not_eq_false', beq_iff_eq, bne_iff_ne, ne_eq, beq_eq_false_iff_ne, bne_eq_false_iff_eq, Decidable.not_not, cond_true, cond_false] at hg21
      refine wc_skip (some 33) (by kernel_rfl) ?_
      refine wc_run (T' := [(2, .bool false)]) (L2 := (ol [])) 2 [2] (by kernel_rfl) ?_
      refine wc_nil rfl ?_
      refine n_np ?_
      refine n_sq ?_
      refine wn_ret (by kernel_rfl) ?_
      refine ret1 _ (Or.inr rfl) Try.results5 rfl ?_
      have he23 : true = false := by
        simp_all
      exact ⟨by first | (rw [he23]; done) | (rw [he23]; rfl), H.nil⟩
  · rw [hg18]
    have hg18 := ne_of_beq_false hg18
    exact absurd rfl hg18

noncomputable def cd_proctorlaw07_MsgReads : Code := (Try.f6.body).getD .skip
theorem proctorlaw07_MsgReads (w : World) (b : List Int) (A : Option Addr) (c : Nat) (hb : Rd w A (iv .u8 b)) (hr : ∀ j, 0 ≤ b.getD j 0 ∧ b.getD j 0 < 256) (hn : b.length ≤ 140737488351232) :
    Calls Try.prog 6 #[.slice A b.length c] w (fun e w' => e = .returned (.bool true) ∧ Hp no w w' []) := by
  refine enter (args := [_]) (c := cd_proctorlaw07_MsgReads) (N := 52) Try.func6 (by kernel_rfl) (by kernel_rfl) (by simp) ?_
  have H := Hp.start w
  refine wn_seq (by kernel_rfl) ?_
  refine wn_reg 1 (by kernel_rfl) ?_
  refine wc_run (T' := [(0, .slice A b.length c)]) (L2 := (rng 1 0)) 1 [0] (by kernel_rfl) ?_
  refine wc_nil rfl ?_
  refine n_sq ?_
  refine wn_seq (by kernel_rfl) ?_
  refine wn_reg 8 (by kernel_rfl) ?_
  refine wc_run (T' := [(0, .slice A b.length c), (12, .slice A b.length c)]) (L2 := (rng 1 7)) 1 [0, 12] (by kernel_rfl) ?_
  refine wc_call (some 13) (by kernel_rfl) (msg_Read w b A c (hb.keep H.keep) hr hn) ?_
  rintro _ w1 ⟨rfl, H1, hf2, hf3⟩
  refine ⟨_, rfl, fun _ => H1.keep, ?_⟩
  replace H := H.call H1
  simp only [List.nil_append] at H
  refine wc_run (T' := [(0, .slice A b.length c), (14, .agg ([.int .u8 ((rdM b).k), .int .u64 ((rdM b).f), .int .u64 ((rdM b).t), .int .u64 ((rdM b).a), .int .u64 ((rdM b).n)] ++ ((iv .u8 ((rdM b).x)) ++ (iv .u8 ((rdM b).y))) : List Value).toArray), (15, .int .i64 (rdE b))]) (L2 := (rng 5 3)) 3 [0, 14, 15] (by kernel_rfl) ?_
  refine wc_new H (some 3) (row ([.int .u8 0] ++ ((iv .u64 (List.replicate 4 0)) ++ (iv .u8 (List.replicate 64 0)))) 49) (fun r => .pointer (some ⟨r, 0, none⟩)) (by kernel_rfl) (fun b4 w5 H => ?_)
  refine wc_st (b := b4) (off := 0) (Tb := 49) (vs := ([.int .u8 ((rdM b).k), .int .u64 ((rdM b).f), .int .u64 ((rdM b).t), .int .u64 ((rdM b).a), .int .u64 ((rdM b).n)] ++ ((iv .u8 ((rdM b).x)) ++ (iv .u8 ((rdM b).y))))) (cs' := ([.int .u8 ((rdM b).k), .int .u64 ((rdM b).f), .int .u64 ((rdM b).t), .int .u64 ((rdM b).a), .int .u64 ((rdM b).n)] ++ ((iv .u8 ((rdM b).x)) ++ (iv .u8 ((rdM b).y))))) H 0 49 (.agg ([.int .u8 ((rdM b).k), .int .u64 ((rdM b).f), .int .u64 ((rdM b).t), .int .u64 ((rdM b).a), .int .u64 ((rdM b).n)] ++ ((iv .u8 ((rdM b).x)) ++ (iv .u8 ((rdM b).y))) : List Value).toArray) 69 (by kernel_rfl) rfl rfl (by exact (lenA (rfl : ([.int .u8 ((rdM b).k), .int .u64 ((rdM b).f), .int .u64 ((rdM b).t), .int .u64 ((rdM b).a), .int .u64 ((rdM b).n)] : List Value).length = 5) (lenA ((iv_length .u8 ((rdM b).x)).trans hf2) ((iv_length .u8 ((rdM b).y)).trans hf3)))) (by have h : ([.int .u8 0] ++ ((iv .u64 (List.replicate 4 0)) ++ (iv .u8 (List.replicate 64 0))) : List Value).length = 69 := (lenA (rfl : ([.int .u8 0] : List Value).length = 1) (lenA ((iv_length .u64 (List.replicate 4 0)).trans List.length_replicate) ((iv_length .u8 (List.replicate 64 0)).trans List.length_replicate))); omega) (by exact (flA (by simp [Value.oneCell']) (flA (iv_flat _ _) (iv_flat _ _)))) (by exact blit_all _ _ ((show ([.int .u8 ((rdM b).k), .int .u64 ((rdM b).f), .int .u64 ((rdM b).t), .int .u64 ((rdM b).a), .int .u64 ((rdM b).n)] ++ ((iv .u8 ((rdM b).x)) ++ (iv .u8 ((rdM b).y))) : List Value).length = 69 from (lenA (rfl : ([.int .u8 ((rdM b).k), .int .u64 ((rdM b).f), .int .u64 ((rdM b).t), .int .u64 ((rdM b).a), .int .u64 ((rdM b).n)] : List Value).length = 5) (lenA ((iv_length .u8 ((rdM b).x)).trans hf2) ((iv_length .u8 ((rdM b).y)).trans hf3)))).trans (show ([.int .u8 0] ++ ((iv .u64 (List.replicate 4 0)) ++ (iv .u8 (List.replicate 64 0))) : List Value).length = 69 from (lenA (rfl : ([.int .u8 0] : List Value).length = 1) (lenA ((iv_length .u64 (List.replicate 4 0)).trans List.length_replicate) ((iv_length .u8 (List.replicate 64 0)).trans List.length_replicate)))).symm)) (fun w6 H => ?_)
  dsimp only [List.set] at H
  refine wc_run (T' := [(0, .slice A b.length c), (3, .pointer (some ⟨b4, 0, none⟩)), (4, .int .i64 (rdE b))]) (L2 := (rng 8 0)) 1 [0, 3, 4] (by kernel_rfl) ?_
  refine wc_nil rfl ?_
  refine n_sq ?_
  refine wn_seq (by kernel_rfl) ?_
  refine wn_reg 8 (by kernel_rfl) ?_
  refine wc_run (T' := [(0, .slice A b.length c), (3, .pointer (some ⟨b4, 0, none⟩)), (4, .int .i64 (rdE b)), (17, .slice A b.length c)]) (L2 := (rng 1 7)) 1 [0, 3, 4, 17] (by kernel_rfl) ?_
  refine wc_call (some 18) (by kernel_rfl) (proctorref07_Read w6 b A c (hb.keep H.keep) hr hn) ?_
  rintro _ w7 ⟨rfl, H1, hf8, hf9⟩
  refine ⟨_, rfl, fun _ => H1.keep, ?_⟩
  replace H := H.call H1
  simp only [List.nil_append] at H
  refine wc_run (T' := [(0, .slice A b.length c), (3, .pointer (some ⟨b4, 0, none⟩)), (4, .int .i64 (rdE b)), (19, .agg ([.int .u8 ((rdM b).k), .int .u64 ((rdM b).f), .int .u64 ((rdM b).t), .int .u64 ((rdM b).a), .int .u64 ((rdM b).n)] ++ ((iv .u8 ((rdM b).x)) ++ (iv .u8 ((rdM b).y))) : List Value).toArray), (20, .int .i64 (rdE b))]) (L2 := (rng 5 3)) 3 [0, 3, 4, 19, 20] (by kernel_rfl) ?_
  refine wc_new H (some 5) (row ([.int .u8 0] ++ ((iv .u64 (List.replicate 4 0)) ++ (iv .u8 (List.replicate 64 0)))) 49) (fun r => .pointer (some ⟨r, 0, none⟩)) (by kernel_rfl) (fun b10 w11 H => ?_)
  refine wc_st (b := b10) (off := 0) (Tb := 49) (vs := ([.int .u8 ((rdM b).k), .int .u64 ((rdM b).f), .int .u64 ((rdM b).t), .int .u64 ((rdM b).a), .int .u64 ((rdM b).n)] ++ ((iv .u8 ((rdM b).x)) ++ (iv .u8 ((rdM b).y))))) (cs' := ([.int .u8 ((rdM b).k), .int .u64 ((rdM b).f), .int .u64 ((rdM b).t), .int .u64 ((rdM b).a), .int .u64 ((rdM b).n)] ++ ((iv .u8 ((rdM b).x)) ++ (iv .u8 ((rdM b).y))))) H 0 49 (.agg ([.int .u8 ((rdM b).k), .int .u64 ((rdM b).f), .int .u64 ((rdM b).t), .int .u64 ((rdM b).a), .int .u64 ((rdM b).n)] ++ ((iv .u8 ((rdM b).x)) ++ (iv .u8 ((rdM b).y))) : List Value).toArray) 69 (by kernel_rfl) rfl rfl (by exact (lenA (rfl : ([.int .u8 ((rdM b).k), .int .u64 ((rdM b).f), .int .u64 ((rdM b).t), .int .u64 ((rdM b).a), .int .u64 ((rdM b).n)] : List Value).length = 5) (lenA ((iv_length .u8 ((rdM b).x)).trans hf8) ((iv_length .u8 ((rdM b).y)).trans hf9)))) (by have h : ([.int .u8 0] ++ ((iv .u64 (List.replicate 4 0)) ++ (iv .u8 (List.replicate 64 0))) : List Value).length = 69 := (lenA (rfl : ([.int .u8 0] : List Value).length = 1) (lenA ((iv_length .u64 (List.replicate 4 0)).trans List.length_replicate) ((iv_length .u8 (List.replicate 64 0)).trans List.length_replicate))); omega) (by exact (flA (by simp [Value.oneCell']) (flA (iv_flat _ _) (iv_flat _ _)))) (by exact blit_all _ _ ((show ([.int .u8 ((rdM b).k), .int .u64 ((rdM b).f), .int .u64 ((rdM b).t), .int .u64 ((rdM b).a), .int .u64 ((rdM b).n)] ++ ((iv .u8 ((rdM b).x)) ++ (iv .u8 ((rdM b).y))) : List Value).length = 69 from (lenA (rfl : ([.int .u8 ((rdM b).k), .int .u64 ((rdM b).f), .int .u64 ((rdM b).t), .int .u64 ((rdM b).a), .int .u64 ((rdM b).n)] : List Value).length = 5) (lenA ((iv_length .u8 ((rdM b).x)).trans hf8) ((iv_length .u8 ((rdM b).y)).trans hf9)))).trans (show ([.int .u8 0] ++ ((iv .u64 (List.replicate 4 0)) ++ (iv .u8 (List.replicate 64 0))) : List Value).length = 69 from (lenA (rfl : ([.int .u8 0] : List Value).length = 1) (lenA ((iv_length .u64 (List.replicate 4 0)).trans List.length_replicate) ((iv_length .u8 (List.replicate 64 0)).trans List.length_replicate)))).symm)) (fun w12 H => ?_)
  dsimp only [List.set] at H
  refine wc_run (T' := [(0, .slice A b.length c), (3, .pointer (some ⟨b4, 0, none⟩)), (4, .int .i64 (rdE b)), (5, .pointer (some ⟨b10, 0, none⟩)), (6, .int .i64 (rdE b))]) (L2 := (rng 8 0)) 1 [0, 3, 4, 5, 6] (by kernel_rfl) ?_
  refine wc_nil rfl ?_
  refine n_sq ?_
  refine wn_seq (by kernel_rfl) ?_
  refine wn_reg 8 (by kernel_rfl) ?_
  refine wc_run (T' := [(0, .slice A b.length c), (3, .pointer (some ⟨b4, 0, none⟩)), (4, .int .i64 (rdE b)), (5, .pointer (some ⟨b10, 0, none⟩)), (6, .int .i64 (rdE b)), (22, .slice A b.length c)]) (L2 := (rng 1 7)) 1 [0, 3, 4, 5, 6, 22] (by kernel_rfl) ?_
  refine wc_call (some 23) (by kernel_rfl) (msg_Words w12 b A c (hb.keep H.keep) hr hn) ?_
  rintro _ w13 ⟨rfl, H1, hf14⟩
  refine ⟨_, rfl, fun _ => H1.keep, ?_⟩
  replace H := H.call H1
  simp only [List.nil_append] at H
  refine wc_run (T' := [(0, .slice A b.length c), (3, .pointer (some ⟨b4, 0, none⟩)), (4, .int .i64 (rdE b)), (5, .pointer (some ⟨b10, 0, none⟩)), (6, .int .i64 (rdE b)), (24, .agg (iv .u64 (mwW b)).toArray), (25, .int .i64 (mwE b))]) (L2 := (rng 5 3)) 3 [0, 3, 4, 5, 6, 24, 25] (by kernel_rfl) ?_
  refine wc_new H (some 7) (row (iv .u64 (List.replicate 13 0)) 61) (fun r => .pointer (some ⟨r, 0, none⟩)) (by kernel_rfl) (fun b15 w16 H => ?_)
  refine wc_st (b := b15) (off := 0) (Tb := 61) (vs := (iv .u64 (mwW b))) (cs' := (iv .u64 (mwW b))) H 0 61 (.agg (iv .u64 (mwW b)).toArray) 13 (by kernel_rfl) rfl rfl (by exact (iv_length .u64 (mwW b)).trans hf14) (by have h := (iv_length .u64 (List.replicate 13 0)).trans List.length_replicate; omega) (by exact iv_flat _ _) (by exact blit_all _ _ ((show (iv .u64 (mwW b) : List Value).length = 13 from (iv_length .u64 (mwW b)).trans hf14).trans (show (iv .u64 (List.replicate 13 0) : List Value).length = 13 from (iv_length .u64 (List.replicate 13 0)).trans List.length_replicate).symm)) (fun w17 H => ?_)
  dsimp only [List.set] at H
  refine wc_run (T' := [(0, .slice A b.length c), (3, .pointer (some ⟨b4, 0, none⟩)), (4, .int .i64 (rdE b)), (5, .pointer (some ⟨b10, 0, none⟩)), (6, .int .i64 (rdE b)), (7, .pointer (some ⟨b15, 0, none⟩)), (8, .int .i64 (mwE b))]) (L2 := (rng 8 0)) 1 [0, 3, 4, 5, 6, 7, 8] (by kernel_rfl) ?_
  refine wc_nil rfl ?_
  refine n_sq ?_
  refine wn_seq (by kernel_rfl) ?_
  refine wn_reg 8 (by kernel_rfl) ?_
  refine wc_run (T' := [(3, .pointer (some ⟨b4, 0, none⟩)), (4, .int .i64 (rdE b)), (5, .pointer (some ⟨b10, 0, none⟩)), (6, .int .i64 (rdE b)), (7, .pointer (some ⟨b15, 0, none⟩)), (8, .int .i64 (mwE b)), (27, .slice A b.length c)]) (L2 := (rng 1 7)) 1 [3, 4, 5, 6, 7, 8, 27] (by kernel_rfl) ?_
  refine wc_call (some 28) (by kernel_rfl) (proctorref07_Words w17 b A c (hb.keep H.keep) hr hn) ?_
  rintro _ w18 ⟨rfl, H1, hf19⟩
  refine ⟨_, rfl, fun _ => H1.keep, ?_⟩
  replace H := H.call H1
  simp only [List.nil_append] at H
  refine wc_run (T' := [(3, .pointer (some ⟨b4, 0, none⟩)), (4, .int .i64 (rdE b)), (5, .pointer (some ⟨b10, 0, none⟩)), (6, .int .i64 (rdE b)), (7, .pointer (some ⟨b15, 0, none⟩)), (8, .int .i64 (mwE b)), (29, .agg (iv .u64 (mwW b)).toArray), (30, .int .i64 (mwE b))]) (L2 := (rng 5 3)) 3 [3, 4, 5, 6, 7, 8, 29, 30] (by kernel_rfl) ?_
  refine wc_new H (some 9) (row (iv .u64 (List.replicate 13 0)) 61) (fun r => .pointer (some ⟨r, 0, none⟩)) (by kernel_rfl) (fun b20 w21 H => ?_)
  refine wc_st (b := b20) (off := 0) (Tb := 61) (vs := (iv .u64 (mwW b))) (cs' := (iv .u64 (mwW b))) H 0 61 (.agg (iv .u64 (mwW b)).toArray) 13 (by kernel_rfl) rfl rfl (by exact (iv_length .u64 (mwW b)).trans hf19) (by have h := (iv_length .u64 (List.replicate 13 0)).trans List.length_replicate; omega) (by exact iv_flat _ _) (by exact blit_all _ _ ((show (iv .u64 (mwW b) : List Value).length = 13 from (iv_length .u64 (mwW b)).trans hf19).trans (show (iv .u64 (List.replicate 13 0) : List Value).length = 13 from (iv_length .u64 (List.replicate 13 0)).trans List.length_replicate).symm)) (fun w22 H => ?_)
  dsimp only [List.set] at H
  refine wc_run (T' := [(3, .pointer (some ⟨b4, 0, none⟩)), (4, .int .i64 (rdE b)), (5, .pointer (some ⟨b10, 0, none⟩)), (6, .int .i64 (rdE b)), (7, .pointer (some ⟨b15, 0, none⟩)), (8, .int .i64 (mwE b)), (9, .pointer (some ⟨b20, 0, none⟩)), (10, .int .i64 (mwE b))]) (L2 := (rng 8 0)) 1 [3, 4, 5, 6, 7, 8, 9, 10] (by kernel_rfl) ?_
  refine wc_nil rfl ?_
  refine n_sq ?_
  refine wn_seq (by kernel_rfl) ?_
  refine wn_reg 22 (by kernel_rfl) ?_
  refine wc_ld (b := b4) (off := 0) (some 31) 49 (.agg ([.int .u8 ((rdM b).k), .int .u64 ((rdM b).f), .int .u64 ((rdM b).t), .int .u64 ((rdM b).a), .int .u64 ((rdM b).n)] ++ ((iv .u8 ((rdM b).x)) ++ (iv .u8 ((rdM b).y))) : List Value).toArray) (by kernel_rfl) (Ld.entW H 3 (n := 69) rfl (by kernel_rfl) (by exact (lenA (rfl : ([.int .u8 ((rdM b).k), .int .u64 ((rdM b).f), .int .u64 ((rdM b).t), .int .u64 ((rdM b).a), .int .u64 ((rdM b).n)] : List Value).length = 5) (lenA ((iv_length .u8 ((rdM b).x)).trans hf8) ((iv_length .u8 ((rdM b).y)).trans hf9))))) ?_
  refine wc_ld (b := b10) (off := 0) (some 32) 49 (.agg ([.int .u8 ((rdM b).k), .int .u64 ((rdM b).f), .int .u64 ((rdM b).t), .int .u64 ((rdM b).a), .int .u64 ((rdM b).n)] ++ ((iv .u8 ((rdM b).x)) ++ (iv .u8 ((rdM b).y))) : List Value).toArray) (by kernel_rfl) (Ld.entW H 2 (n := 69) rfl (by kernel_rfl) (by exact (lenA (rfl : ([.int .u8 ((rdM b).k), .int .u64 ((rdM b).f), .int .u64 ((rdM b).t), .int .u64 ((rdM b).a), .int .u64 ((rdM b).n)] : List Value).length = 5) (lenA ((iv_length .u8 ((rdM b).x)).trans hf8) ((iv_length .u8 ((rdM b).y)).trans hf9))))) ?_
  refine wc_eqA (c := true) 20 (some 33) 49 true ([.int .u8 ((rdM b).k), .int .u64 ((rdM b).f), .int .u64 ((rdM b).t), .int .u64 ((rdM b).a), .int .u64 ((rdM b).n)] ++ ((iv .u8 ((rdM b).x)) ++ (iv .u8 ((rdM b).y)))) ([.int .u8 ((rdM b).k), .int .u64 ((rdM b).f), .int .u64 ((rdM b).t), .int .u64 ((rdM b).a), .int .u64 ((rdM b).n)] ++ ((iv .u8 ((rdM b).x)) ++ (iv .u8 ((rdM b).y)))) (by kernel_rfl) (by have h := EqV.flat (P := Try.prog) (n := 20) (t := 49) (ks := ([CK.int .u8, CK.int .u64, CK.int .u64, CK.int .u64, CK.int .u64] ++ ((List.replicate 32 (CK.int .u8)) ++ (List.replicate 32 (CK.int .u8))))) (by kernel_rfl) (a := ([.int .u8 ((rdM b).k), .int .u64 ((rdM b).f), .int .u64 ((rdM b).t), .int .u64 ((rdM b).a), .int .u64 ((rdM b).n)] ++ ((iv .u8 ((rdM b).x)) ++ (iv .u8 ((rdM b).y))) : List Value)) (b := ([.int .u8 ((rdM b).k), .int .u64 ((rdM b).f), .int .u64 ((rdM b).t), .int .u64 ((rdM b).a), .int .u64 ((rdM b).n)] ++ ((iv .u8 ((rdM b).x)) ++ (iv .u8 ((rdM b).y))) : List Value)) (kdA rfl (kdA (kd_ivn (hf8)) (kd_ivn (hf9)))) (kdA rfl (kdA (kd_ivn (hf8)) (kd_ivn (hf9)))) true ⟨fun _ => rfl, fun _ => rfl⟩; exact h) ?_
  simp only [if_true, Bool.false_eq_true, if_false, Bool.not_true]
  refine wc_run (T' := [(7, .pointer (some ⟨b15, 0, none⟩)), (8, .int .i64 (mwE b)), (9, .pointer (some ⟨b20, 0, none⟩)), (10, .int .i64 (mwE b)), (39, .bool ((rdE b) == (rdE b)))]) (L2 := (rng 9 13)) 6 [7, 8, 9, 10, 39] (by kernel_rfl) ?_
  refine wc_if ((rdE b) == (rdE b)) (rng 13 9) ([(8, .int .i64 (mwE b)), (10, .int .i64 (mwE b)), (43, .bool ((rdE b) == (rdE b)))]) (fun hg23 K => ?_) (fun hg23 K => ?_) ?_
  · rw [hg23] at K ⊢
    have hg23 := eq_of_beq hg23
    refine wc_ld (b := b15) (off := 0) (some 40) 61 (.agg (iv .u64 (mwW b)).toArray) (by kernel_rfl) (Ld.entW H 1 (n := 13) rfl (by kernel_rfl) (by exact (iv_length .u64 (mwW b)).trans hf19)) ?_
    refine wc_ld (b := b20) (off := 0) (some 41) 61 (.agg (iv .u64 (mwW b)).toArray) (by kernel_rfl) (Ld.entW H 0 (n := 13) rfl (by kernel_rfl) (by exact (iv_length .u64 (mwW b)).trans hf19)) ?_
    refine wc_eqA (c := true) 2 (some 42) 61 true (iv .u64 (mwW b)) (iv .u64 (mwW b)) (by kernel_rfl) (by have h := EqV.arrC (P := Try.prog) (t := 61) (k := .u64) (n := 13) (by kernel_rfl) (mwW b) (mwW b) (by exact hf19) (by exact hf19); rw [decide_eq_true rfl] at h; exact h) ?_
    simp only [if_true, Bool.false_eq_true, if_false, Bool.not_true]
    refine wc_run (T' := [(8, .int .i64 (mwE b)), (10, .int .i64 (mwE b)), (43, .bool true)]) (L2 := (rng 13 9)) 1 [8, 10, 43] (by kernel_rfl) ?_
    exact K
  · rw [hg23] at K ⊢
    have hg23 := ne_of_beq_false hg23
    refine wc_run (T' := [(8, .int .i64 (mwE b)), (10, .int .i64 (mwE b)), (43, .bool false)]) (L2 := (rng 13 9)) 4 [8, 10, 43] (by kernel_rfl) ?_
    exact K
  refine wc_run (T' := [(8, .int .i64 (mwE b)), (10, .int .i64 (mwE b)), (44, .bool ((rdE b) == (rdE b)))]) (L2 := (rng 14 8)) 1 [8, 10, 44] (by kernel_rfl) ?_
  refine wc_if ((rdE b) == (rdE b)) (rng 18 4) ([(48, .bool (((rdE b) == (rdE b)) && ((mwE b) == (mwE b))))]) (fun hg24 K => ?_) (fun hg24 K => ?_) ?_
  · rw [hg24] at K ⊢
    have hg24 := eq_of_beq hg24
    refine wc_run (T' := [(48, .bool ((mwE b) == (mwE b)))]) (L2 := (rng 18 4)) 4 [48] (by kernel_rfl) ?_
    exact K
  · rw [hg24] at K ⊢
    have hg24 := ne_of_beq_false hg24
    refine wc_run (T' := [(48, .bool false)]) (L2 := (rng 18 4)) 4 [48] (by kernel_rfl) ?_
    exact K
  refine wc_run (T' := [(49, .bool (((rdE b) == (rdE b)) && ((mwE b) == (mwE b))))]) (L2 := (rng 19 3)) 1 [49] (by kernel_rfl) ?_
  rcases Bool.eq_false_or_eq_true (((rdE b) == (rdE b)) && ((mwE b) == (mwE b))) with hg25 | hg25
  · rw [hg25]
    try simp only [Bool.and_eq_true, Bool.or_eq_true, Bool.and_eq_false_iff, Bool.or_eq_false_iff, decide_eq_true_eq, decide_eq_false_iff_not, Bool.not_eq_true', Bool.not_eq_false', beq_iff_eq, bne_iff_ne, ne_eq, beq_eq_false_iff_ne, bne_eq_false_iff_eq, Decidable.not_not, cond_true, cond_false] at hg25
    refine wc_call (some 50) (by kernel_rfl) (proctorlaw07_anchored w22) ?_
    rintro _ w26 ⟨rfl, H1⟩
    refine ⟨_, rfl, fun _ => H1.keep, ?_⟩
    replace H := H.call H1
    simp only [List.nil_append] at H
    refine wc_run (T' := [(2, .bool true)]) (L2 := (rng 22 0)) 2 [2] (by kernel_rfl) ?_
    refine wc_nil rfl ?_
    refine n_sq ?_
    refine wn_ret (by kernel_rfl) ?_
    refine ret1 _ (Or.inr rfl) Try.results6 rfl ?_
    exact ⟨rfl, H.nil⟩
  · rw [hg25]
    try simp only [Bool.and_eq_true, Bool.or_eq_true, Bool.and_eq_false_iff, Bool.or_eq_false_iff, decide_eq_true_eq, decide_eq_false_iff_not, Bool.not_eq_true', Bool.not_eq_false', beq_iff_eq, bne_iff_ne, ne_eq, beq_eq_false_iff_ne, bne_eq_false_iff_eq, Decidable.not_not, cond_true, cond_false] at hg25
    refine wc_skip (some 50) (by kernel_rfl) ?_
    refine wc_run (T' := [(2, .bool false)]) (L2 := (rng 22 0)) 2 [2] (by kernel_rfl) ?_
    refine wc_nil rfl ?_
    refine n_sq ?_
    refine wn_ret (by kernel_rfl) ?_
    refine ret1 _ (Or.inr rfl) Try.results6 rfl ?_
    have he27 : true = false := by
      simp_all
    exact ⟨by first | (rw [he27]; done) | (rw [he27]; rfl), H.nil⟩

noncomputable def cd_proctorlaw07_MsgBack : Code := (Try.f7.body).getD .skip
theorem proctorlaw07_MsgBack (w : World) (k : Int) (f : Int) (t : Int) (a : Int) (n : Int) (x : List Int) (y : List Int) (b : List Int) (A : Option Addr) (c : Nat) (hx : x.length = 32) (hy : y.length = 32) (hk : 0 ≤ k ∧ k < 256) (hf : 0 ≤ f ∧ f < 18446744073709551616) (ht : 0 ≤ t ∧ t < 18446744073709551616) (ha : 0 ≤ a ∧ a < 18446744073709551616) (hn : 0 ≤ n ∧ n < 18446744073709551616) (hxb : ∀ j, 0 ≤ x.getD j 0 ∧ x.getD j 0 < 256) (hyb : ∀ j, 0 ≤ y.getD j 0 ∧ y.getD j 0 < 256) (hb : Rd w A (iv .u8 b)) (hr : ∀ j, 0 ≤ b.getD j 0 ∧ b.getD j 0 < 256) (hnb : b.length ≤ 140737488351232) :
    Calls Try.prog 7 #[.agg ([.int .u8 k, .int .u64 f, .int .u64 t, .int .u64 a, .int .u64 n] ++ ((iv .u8 x) ++ (iv .u8 y)) : List Value).toArray, .slice A b.length c] w (fun e w' => e = .returned (.bool true) ∧ Hp no w w' []) := by
  have hq := fun hm => read_written (k := k) (f := f) (t := t) (a := a) (n := n) hx hy hk hf ht ha hn hxb hyb hm
  have hE1 : mayM k f t a n x y = true → rdE (wrM k f t a n x y) = 0 := fun h => by unfold rdE; rw [if_pos (hq h).1]
  have hW1 : mayM k f t a n x y = true → wrE k f t a n x y = 0 := fun h => by unfold wrE; rw [if_pos h]
  have hW2 : wrE k f t a n x y = 0 → mayM k f t a n x y = true := fun h => by unfold wrE at h; split at h; (assumption); (omega)
  have hL1 : mayM k f t a n x y = true → (wrM k f t a n x y).length = 104 := fun h => by rw [wrM_len _ _ _ _ _ hx hy, if_pos h]
  have hb1 : rdE b = 0 → rdOk b = true := fun h => by
    unfold rdE at h
    split at h
    · assumption
    · split at h <;> omega
  have hb0 : rdE b ≠ 0 → rdM b = ⟨0, 0, 0, 0, 0, List.replicate 32 0, List.replicate 32 0⟩ := fun h => by
    unfold rdM
    rw [if_neg]
    intro hh; apply h; unfold rdE; rw [if_pos hh]
  have hb2 := fun h => written_read hr h
  have hb3 : rdOk b = true → wrE (rdM b).k (rdM b).f (rdM b).t (rdM b).a (rdM b).n (rdM b).x (rdM b).y = 0 := fun h => by unfold wrE; rw [if_pos (hb2 h).1]
  refine enter (args := [_, _]) (c := cd_proctorlaw07_MsgBack) (N := 69) Try.func7 (by kernel_rfl) (by kernel_rfl) (by simp) ?_
  have H := Hp.start w
  refine wn_seq (by kernel_rfl) ?_
  refine wn_reg 2 (by kernel_rfl) ?_
  refine wc_new H (some 2) (row ([.int .u8 k, .int .u64 f, .int .u64 t, .int .u64 a, .int .u64 n] ++ ((iv .u8 x) ++ (iv .u8 y))) 49) (fun r => .pointer (some ⟨r, 0, none⟩)) (by kernel_rfl) (fun b1 w2 H => ?_)
  refine wc_run (T' := [(1, .slice A b.length c), (2, .pointer (some ⟨b1, 0, none⟩))]) (L2 := (rng 2 0)) 1 [1, 2] (by kernel_rfl) ?_
  refine wc_nil rfl ?_
  refine n_sq ?_
  refine wn_seq (by kernel_rfl) ?_
  refine wn_reg 7 (by kernel_rfl) ?_
  refine wc_ld (b := b1) (off := 0) (some 14) 49 (.agg ([.int .u8 k, .int .u64 f, .int .u64 t, .int .u64 a, .int .u64 n] ++ ((iv .u8 x) ++ (iv .u8 y)) : List Value).toArray) (by kernel_rfl) (Ld.entW H 0 (n := 69) rfl (by kernel_rfl) (by exact (lenA (rfl : ([.int .u8 k, .int .u64 f, .int .u64 t, .int .u64 a, .int .u64 n] : List Value).length = 5) (lenA ((iv_length .u8 x).trans hx) ((iv_length .u8 y).trans hy))))) ?_
  refine wc_call (some 15) (by kernel_rfl) (msg_Write w2 k f t a n x y hx hy hk hf ht ha hn hxb hyb) ?_
  rintro _ w5 ⟨A3, c4, rfl, H1, hf6, hf7, hf8⟩
  refine ⟨_, rfl, fun _ => H1.keep, ?_⟩
  replace H := H.call H1
  simp only [List.nil_append, List.cons_append] at H
  refine wc_run (T' := [(1, .slice A b.length c), (2, .pointer (some ⟨b1, 0, none⟩)), (5, .slice A3 ((wrM k f t a n x y).length) c4), (6, .int .i64 (wrE k f t a n x y))]) (L2 := (rng 7 0)) 5 [1, 2, 5, 6] (by kernel_rfl) ?_
  refine wc_nil rfl ?_
  refine n_sq ?_
  refine wn_seq (by kernel_rfl) ?_
  refine wn_seq (by kernel_rfl) ?_
  refine wn_reg 2 (by kernel_rfl) ?_
  refine wc_run (T' := [(1, .slice A b.length c), (2, .pointer (some ⟨b1, 0, none⟩)), (5, .slice A3 ((wrM k f t a n x y).length) c4), (19, .bool ((wrE k f t a n x y) == (0 : Int)))]) (L2 := (rng 2 0)) 2 [1, 2, 5, 19] (by kernel_rfl) ?_
  refine wc_nil rfl ?_
  refine n_sq ?_
  refine wn_cond (.tmp 19) ((wrE k f t a n x y) == (0 : Int)) (by kernel_rfl) rfl (fun hc9 => ?_) (fun hc9 => ?_)
  · have hc9 := eq_of_beq hc9
    refine wn_seq (by kernel_rfl) ?_
    refine wn_reg 8 (by kernel_rfl) ?_
    refine wc_run (T' := [(1, .slice A b.length c), (2, .pointer (some ⟨b1, 0, none⟩)), (5, .slice A3 ((wrM k f t a n x y).length) c4), (21, .slice A3 ((wrM k f t a n x y).length) c4)]) (L2 := (rng 1 7)) 1 [1, 2, 5, 21] (by kernel_rfl) ?_
    refine wc_call (some 22) (by kernel_rfl) (msg_Read w5 (wrM k f t a n x y) A3 c4 (Rd.sl H 0 rfl) hf7 (by first | with_reducible assumption | omega | (simp_all; done))) ?_
    rintro _ w10 ⟨rfl, H1, hf11, hf12⟩
    refine ⟨_, rfl, fun _ => H1.keep, ?_⟩
    replace H := H.call H1
    simp only [List.nil_append] at H
    refine wc_run (T' := [(1, .slice A b.length c), (2, .pointer (some ⟨b1, 0, none⟩)), (5, .slice A3 ((wrM k f t a n x y).length) c4), (23, .agg ([.int .u8 ((rdM (wrM k f t a n x y)).k), .int .u64 ((rdM (wrM k f t a n x y)).f), .int .u64 ((rdM (wrM k f t a n x y)).t), .int .u64 ((rdM (wrM k f t a n x y)).a), .int .u64 ((rdM (wrM k f t a n x y)).n)] ++ ((iv .u8 ((rdM (wrM k f t a n x y)).x)) ++ (iv .u8 ((rdM (wrM k f t a n x y)).y))) : List Value).toArray), (24, .int .i64 (rdE (wrM k f t a n x y)))]) (L2 := (rng 5 3)) 3 [1, 2, 5, 23, 24] (by kernel_rfl) ?_
    refine wc_new H (some 7) (row ([.int .u8 0] ++ ((iv .u64 (List.replicate 4 0)) ++ (iv .u8 (List.replicate 64 0)))) 49) (fun r => .pointer (some ⟨r, 0, none⟩)) (by kernel_rfl) (fun b13 w14 H => ?_)
    refine wc_st (b := b13) (off := 0) (Tb := 49) (vs := ([.int .u8 ((rdM (wrM k f t a n x y)).k), .int .u64 ((rdM (wrM k f t a n x y)).f), .int .u64 ((rdM (wrM k f t a n x y)).t), .int .u64 ((rdM (wrM k f t a n x y)).a), .int .u64 ((rdM (wrM k f t a n x y)).n)] ++ ((iv .u8 ((rdM (wrM k f t a n x y)).x)) ++ (iv .u8 ((rdM (wrM k f t a n x y)).y))))) (cs' := ([.int .u8 ((rdM (wrM k f t a n x y)).k), .int .u64 ((rdM (wrM k f t a n x y)).f), .int .u64 ((rdM (wrM k f t a n x y)).t), .int .u64 ((rdM (wrM k f t a n x y)).a), .int .u64 ((rdM (wrM k f t a n x y)).n)] ++ ((iv .u8 ((rdM (wrM k f t a n x y)).x)) ++ (iv .u8 ((rdM (wrM k f t a n x y)).y))))) H 0 49 (.agg ([.int .u8 ((rdM (wrM k f t a n x y)).k), .int .u64 ((rdM (wrM k f t a n x y)).f), .int .u64 ((rdM (wrM k f t a n x y)).t), .int .u64 ((rdM (wrM k f t a n x y)).a), .int .u64 ((rdM (wrM k f t a n x y)).n)] ++ ((iv .u8 ((rdM (wrM k f t a n x y)).x)) ++ (iv .u8 ((rdM (wrM k f t a n x y)).y))) : List Value).toArray) 69 (by kernel_rfl) rfl rfl (by exact (lenA (rfl : ([.int .u8 ((rdM (wrM k f t a n x y)).k), .int .u64 ((rdM (wrM k f t a n x y)).f), .int .u64 ((rdM (wrM k f t a n x y)).t), .int .u64 ((rdM (wrM k f t a n x y)).a), .int .u64 ((rdM (wrM k f t a n x y)).n)] : List Value).length = 5) (lenA ((iv_length .u8 ((rdM (wrM k f t a n x y)).x)).trans hf11) ((iv_length .u8 ((rdM (wrM k f t a n x y)).y)).trans hf12)))) (by have h : ([.int .u8 0] ++ ((iv .u64 (List.replicate 4 0)) ++ (iv .u8 (List.replicate 64 0))) : List Value).length = 69 := (lenA (rfl : ([.int .u8 0] : List Value).length = 1) (lenA ((iv_length .u64 (List.replicate 4 0)).trans List.length_replicate) ((iv_length .u8 (List.replicate 64 0)).trans List.length_replicate))); omega) (by exact (flA (by simp [Value.oneCell']) (flA (iv_flat _ _) (iv_flat _ _)))) (by exact blit_all _ _ ((show ([.int .u8 ((rdM (wrM k f t a n x y)).k), .int .u64 ((rdM (wrM k f t a n x y)).f), .int .u64 ((rdM (wrM k f t a n x y)).t), .int .u64 ((rdM (wrM k f t a n x y)).a), .int .u64 ((rdM (wrM k f t a n x y)).n)] ++ ((iv .u8 ((rdM (wrM k f t a n x y)).x)) ++ (iv .u8 ((rdM (wrM k f t a n x y)).y))) : List Value).length = 69 from (lenA (rfl : ([.int .u8 ((rdM (wrM k f t a n x y)).k), .int .u64 ((rdM (wrM k f t a n x y)).f), .int .u64 ((rdM (wrM k f t a n x y)).t), .int .u64 ((rdM (wrM k f t a n x y)).a), .int .u64 ((rdM (wrM k f t a n x y)).n)] : List Value).length = 5) (lenA ((iv_length .u8 ((rdM (wrM k f t a n x y)).x)).trans hf11) ((iv_length .u8 ((rdM (wrM k f t a n x y)).y)).trans hf12)))).trans (show ([.int .u8 0] ++ ((iv .u64 (List.replicate 4 0)) ++ (iv .u8 (List.replicate 64 0))) : List Value).length = 69 from (lenA (rfl : ([.int .u8 0] : List Value).length = 1) (lenA ((iv_length .u64 (List.replicate 4 0)).trans List.length_replicate) ((iv_length .u8 (List.replicate 64 0)).trans List.length_replicate)))).symm)) (fun w15 H => ?_)
    dsimp only [List.set] at H
    refine wc_run (T' := [(1, .slice A b.length c), (2, .pointer (some ⟨b1, 0, none⟩)), (5, .slice A3 ((wrM k f t a n x y).length) c4), (7, .pointer (some ⟨b13, 0, none⟩)), (8, .int .i64 (rdE (wrM k f t a n x y)))]) (L2 := (rng 8 0)) 1 [1, 2, 5, 7, 8] (by kernel_rfl) ?_
    refine wc_nil rfl ?_
    refine n_sq ?_
    refine wn_seq (by kernel_rfl) ?_
    refine wn_reg 12 (by kernel_rfl) ?_
    refine wc_run (T' := [(1, .slice A b.length c), (2, .pointer (some ⟨b1, 0, none⟩)), (5, .slice A3 ((wrM k f t a n x y).length) c4), (7, .pointer (some ⟨b13, 0, none⟩)), (27, .bool ((rdE (wrM k f t a n x y)) != (0 : Int)))]) (L2 := (rng 3 9)) 3 [1, 2, 5, 7, 27] (by kernel_rfl) ?_
    refine wc_if ((rdE (wrM k f t a n x y)) != (0 : Int)) (rng 7 5) ([(1, .slice A b.length c), (5, .slice A3 ((wrM k f t a n x y).length) c4), (31, .bool (((rdE (wrM k f t a n x y)) != (0 : Int)) || (!decide (((rdM (wrM k f t a n x y)).k = k ∧ (rdM (wrM k f t a n x y)).f = f ∧ (rdM (wrM k f t a n x y)).t = t ∧ (rdM (wrM k f t a n x y)).a = a ∧ (rdM (wrM k f t a n x y)).n = n) ∧ (((rdM (wrM k f t a n x y)).x) = x ∧ ((rdM (wrM k f t a n x y)).y) = y)))))]) (fun hg16 K => ?_) (fun hg16 K => ?_) ?_
    · rw [hg16] at K ⊢
      have hg16 := bneT hg16
      refine wc_run (T' := [(1, .slice A b.length c), (5, .slice A3 ((wrM k f t a n x y).length) c4), (31, .bool true)]) (L2 := (rng 7 5)) 4 [1, 5, 31] (by kernel_rfl) ?_
      exact K
    · rw [hg16] at K ⊢
      have hg16 := bneF hg16
      refine wc_ld (b := b13) (off := 0) (some 28) 49 (.agg ([.int .u8 ((rdM (wrM k f t a n x y)).k), .int .u64 ((rdM (wrM k f t a n x y)).f), .int .u64 ((rdM (wrM k f t a n x y)).t), .int .u64 ((rdM (wrM k f t a n x y)).a), .int .u64 ((rdM (wrM k f t a n x y)).n)] ++ ((iv .u8 ((rdM (wrM k f t a n x y)).x)) ++ (iv .u8 ((rdM (wrM k f t a n x y)).y))) : List Value).toArray) (by kernel_rfl) (Ld.entW H 0 (n := 69) rfl (by kernel_rfl) (by exact (lenA (rfl : ([.int .u8 ((rdM (wrM k f t a n x y)).k), .int .u64 ((rdM (wrM k f t a n x y)).f), .int .u64 ((rdM (wrM k f t a n x y)).t), .int .u64 ((rdM (wrM k f t a n x y)).a), .int .u64 ((rdM (wrM k f t a n x y)).n)] : List Value).length = 5) (lenA ((iv_length .u8 ((rdM (wrM k f t a n x y)).x)).trans hf11) ((iv_length .u8 ((rdM (wrM k f t a n x y)).y)).trans hf12))))) ?_
      refine wc_ld (b := b1) (off := 0) (some 29) 49 (.agg ([.int .u8 k, .int .u64 f, .int .u64 t, .int .u64 a, .int .u64 n] ++ ((iv .u8 x) ++ (iv .u8 y)) : List Value).toArray) (by kernel_rfl) (Ld.entW H 2 (n := 69) rfl (by kernel_rfl) (by exact (lenA (rfl : ([.int .u8 k, .int .u64 f, .int .u64 t, .int .u64 a, .int .u64 n] : List Value).length = 5) (lenA ((iv_length .u8 x).trans hx) ((iv_length .u8 y).trans hy))))) ?_
      refine wc_eqA (c := decide (((rdM (wrM k f t a n x y)).k = k ∧ (rdM (wrM k f t a n x y)).f = f ∧ (rdM (wrM k f t a n x y)).t = t ∧ (rdM (wrM k f t a n x y)).a = a ∧ (rdM (wrM k f t a n x y)).n = n) ∧ (((rdM (wrM k f t a n x y)).x) = x ∧ ((rdM (wrM k f t a n x y)).y) = y))) 20 (some 30) 49 false ([.int .u8 ((rdM (wrM k f t a n x y)).k), .int .u64 ((rdM (wrM k f t a n x y)).f), .int .u64 ((rdM (wrM k f t a n x y)).t), .int .u64 ((rdM (wrM k f t a n x y)).a), .int .u64 ((rdM (wrM k f t a n x y)).n)] ++ ((iv .u8 ((rdM (wrM k f t a n x y)).x)) ++ (iv .u8 ((rdM (wrM k f t a n x y)).y)))) ([.int .u8 k, .int .u64 f, .int .u64 t, .int .u64 a, .int .u64 n] ++ ((iv .u8 x) ++ (iv .u8 y))) (by kernel_rfl) (by have h := EqV.flat (P := Try.prog) (n := 20) (t := 49) (ks := ([CK.int .u8, CK.int .u64, CK.int .u64, CK.int .u64, CK.int .u64] ++ ((List.replicate 32 (CK.int .u8)) ++ (List.replicate 32 (CK.int .u8))))) (by kernel_rfl) (a := ([.int .u8 ((rdM (wrM k f t a n x y)).k), .int .u64 ((rdM (wrM k f t a n x y)).f), .int .u64 ((rdM (wrM k f t a n x y)).t), .int .u64 ((rdM (wrM k f t a n x y)).a), .int .u64 ((rdM (wrM k f t a n x y)).n)] ++ ((iv .u8 ((rdM (wrM k f t a n x y)).x)) ++ (iv .u8 ((rdM (wrM k f t a n x y)).y))) : List Value)) (b := ([.int .u8 k, .int .u64 f, .int .u64 t, .int .u64 a, .int .u64 n] ++ ((iv .u8 x) ++ (iv .u8 y)) : List Value)) (kdA rfl (kdA (kd_ivn (hf11)) (kd_ivn (hf12)))) (kdA rfl (kdA (kd_ivn (hx)) (kd_ivn (hy)))) (decide (((rdM (wrM k f t a n x y)).k = k ∧ (rdM (wrM k f t a n x y)).f = f ∧ (rdM (wrM k f t a n x y)).t = t ∧ (rdM (wrM k f t a n x y)).a = a ∧ (rdM (wrM k f t a n x y)).n = n) ∧ (((rdM (wrM k f t a n x y)).x) = x ∧ ((rdM (wrM k f t a n x y)).y) = y))) (dec_iff (eqA rfl (show ([.int .u8 ((rdM (wrM k f t a n x y)).k), .int .u64 ((rdM (wrM k f t a n x y)).f), .int .u64 ((rdM (wrM k f t a n x y)).t), .int .u64 ((rdM (wrM k f t a n x y)).a), .int .u64 ((rdM (wrM k f t a n x y)).n)] : List Value) = [.int .u8 k, .int .u64 f, .int .u64 t, .int .u64 a, .int .u64 n] ↔ (rdM (wrM k f t a n x y)).k = k ∧ (rdM (wrM k f t a n x y)).f = f ∧ (rdM (wrM k f t a n x y)).t = t ∧ (rdM (wrM k f t a n x y)).a = a ∧ (rdM (wrM k f t a n x y)).n = n by simp) (eqA (((iv_length _ _).trans (hf11)).trans ((iv_length _ _).trans (hx)).symm) iv_inj iv_inj))); exact h) ?_
      simp only [if_true, Bool.false_eq_true, if_false]
      refine wc_run (T' := [(1, .slice A b.length c), (5, .slice A3 ((wrM k f t a n x y).length) c4), (31, .bool (!decide (((rdM (wrM k f t a n x y)).k = k ∧ (rdM (wrM k f t a n x y)).f = f ∧ (rdM (wrM k f t a n x y)).t = t ∧ (rdM (wrM k f t a n x y)).a = a ∧ (rdM (wrM k f t a n x y)).n = n) ∧ (((rdM (wrM k f t a n x y)).x) = x ∧ ((rdM (wrM k f t a n x y)).y) = y))))]) (L2 := (rng 7 5)) 1 [1, 5, 31] (by kernel_rfl) ?_
      exact K
    refine wc_run (T' := [(1, .slice A b.length c), (5, .slice A3 ((wrM k f t a n x y).length) c4), (32, .bool (((rdE (wrM k f t a n x y)) != (0 : Int)) || (!decide (((rdM (wrM k f t a n x y)).k = k ∧ (rdM (wrM k f t a n x y)).f = f ∧ (rdM (wrM k f t a n x y)).t = t ∧ (rdM (wrM k f t a n x y)).a = a ∧ (rdM (wrM k f t a n x y)).n = n) ∧ (((rdM (wrM k f t a n x y)).x) = x ∧ ((rdM (wrM k f t a n x y)).y) = y)))))]) (L2 := (rng 8 4)) 1 [1, 5, 32] (by kernel_rfl) ?_
    refine wc_if (((rdE (wrM k f t a n x y)) != (0 : Int)) || (!decide (((rdM (wrM k f t a n x y)).k = k ∧ (rdM (wrM k f t a n x y)).f = f ∧ (rdM (wrM k f t a n x y)).t = t ∧ (rdM (wrM k f t a n x y)).a = a ∧ (rdM (wrM k f t a n x y)).n = n) ∧ (((rdM (wrM k f t a n x y)).x) = x ∧ ((rdM (wrM k f t a n x y)).y) = y)))) (rng 12 0) ([(1, .slice A b.length c), (36, .bool ((((rdE (wrM k f t a n x y)) != (0 : Int)) || (!decide (((rdM (wrM k f t a n x y)).k = k ∧ (rdM (wrM k f t a n x y)).f = f ∧ (rdM (wrM k f t a n x y)).t = t ∧ (rdM (wrM k f t a n x y)).a = a ∧ (rdM (wrM k f t a n x y)).n = n) ∧ (((rdM (wrM k f t a n x y)).x) = x ∧ ((rdM (wrM k f t a n x y)).y) = y)))) || ((↑((wrM k f t a n x y).length) : Int) != (104 : Int))))]) (fun hg17 K => ?_) (fun hg17 K => ?_) ?_
    · rw [hg17] at K ⊢
      try simp only [Bool.and_eq_true, Bool.or_eq_true, Bool.and_eq_false_iff, Bool.or_eq_false_iff, decide_eq_true_eq, decide_eq_false_iff_not, Bool.not_eq_true', Bool.not_eq_false', beq_iff_eq, bne_iff_ne, ne_eq, beq_eq_false_iff_ne, bne_eq_false_iff_eq, Decidable.not_not, cond_true, cond_false] at hg17
      refine wc_run (T' := [(1, .slice A b.length c), (36, .bool true)]) (L2 := (rng 12 0)) 4 [1, 36] (by kernel_rfl) ?_
      exact K
    · rw [hg17] at K ⊢
      try simp only [Bool.and_eq_true, Bool.or_eq_true, Bool.and_eq_false_iff, Bool.or_eq_false_iff, decide_eq_true_eq, decide_eq_false_iff_not, Bool.not_eq_true', Bool.not_eq_false', beq_iff_eq, bne_iff_ne, ne_eq, beq_eq_false_iff_ne, bne_eq_false_iff_eq, Decidable.not_not, cond_true, cond_false] at hg17
      refine wc_run (T' := [(1, .slice A b.length c), (36, .bool ((↑((wrM k f t a n x y).length) : Int) != (104 : Int)))]) (L2 := (rng 12 0)) 4 [1, 36] (by kernel_rfl) ?_
      exact K
    refine wc_nil rfl ?_
    refine n_sq ?_
    refine wn_cond (.tmp 36) ((((rdE (wrM k f t a n x y)) != (0 : Int)) || (!decide (((rdM (wrM k f t a n x y)).k = k ∧ (rdM (wrM k f t a n x y)).f = f ∧ (rdM (wrM k f t a n x y)).t = t ∧ (rdM (wrM k f t a n x y)).a = a ∧ (rdM (wrM k f t a n x y)).n = n) ∧ (((rdM (wrM k f t a n x y)).x) = x ∧ ((rdM (wrM k f t a n x y)).y) = y)))) || ((↑((wrM k f t a n x y).length) : Int) != (104 : Int))) (by kernel_rfl) rfl (fun hc18 => ?_) (fun hc18 => ?_)
    · try simp only [Bool.and_eq_true, Bool.or_eq_true, Bool.and_eq_false_iff, Bool.or_eq_false_iff, decide_eq_true_eq, decide_eq_false_iff_not, Bool.not_eq_true', Bool.not_eq_false', beq_iff_eq, bne_iff_ne, ne_eq, beq_eq_false_iff_ne, bne_eq_false_iff_eq, Decidable.not_not, cond_true, cond_false] at hc18
      refine wn_seq (by kernel_rfl) ?_
      refine wn_reg 1 (by kernel_rfl) ?_
      refine wc_run (T' := [(4, .bool false)]) (L2 := (rng 1 0)) 1 [4] (by kernel_rfl) ?_
      refine wc_nil rfl ?_
      refine n_sq ?_
      refine wn_ret (by kernel_rfl) ?_
      refine r_sq ?_
      refine ret1 _ (Or.inr rfl) Try.results7 rfl ?_
      have he19 : true = false := by
        simp_all
      exact ⟨by first | (rw [he19]; done) | (rw [he19]; rfl), H.nil⟩
    · try simp only [Bool.and_eq_true, Bool.or_eq_true, Bool.and_eq_false_iff, Bool.or_eq_false_iff, decide_eq_true_eq, decide_eq_false_iff_not, Bool.not_eq_true', Bool.not_eq_false', beq_iff_eq, bne_iff_ne, ne_eq, beq_eq_false_iff_ne, bne_eq_false_iff_eq, Decidable.not_not, cond_true, cond_false] at hc18
      refine wn_skip (by kernel_rfl) ?_
      refine n_sq ?_
      refine wn_seq (by kernel_rfl) ?_
      refine wn_reg 8 (by kernel_rfl) ?_
      refine wc_run (T' := [(1, .slice A b.length c), (38, .slice A b.length c)]) (L2 := (rng 1 7)) 1 [1, 38] (by kernel_rfl) ?_
      refine wc_call (some 39) (by kernel_rfl) (msg_Read w15 b A c (hb.keep H.keep) hr hnb) ?_
      rintro _ w20 ⟨rfl, H1, hf21, hf22⟩
      refine ⟨_, rfl, fun _ => H1.keep, ?_⟩
      replace H := H.call H1
      simp only [List.nil_append] at H
      refine wc_run (T' := [(1, .slice A b.length c), (40, .agg ([.int .u8 ((rdM b).k), .int .u64 ((rdM b).f), .int .u64 ((rdM b).t), .int .u64 ((rdM b).a), .int .u64 ((rdM b).n)] ++ ((iv .u8 ((rdM b).x)) ++ (iv .u8 ((rdM b).y))) : List Value).toArray), (41, .int .i64 (rdE b))]) (L2 := (rng 5 3)) 3 [1, 40, 41] (by kernel_rfl) ?_
      refine wc_new H (some 9) (row ([.int .u8 0] ++ ((iv .u64 (List.replicate 4 0)) ++ (iv .u8 (List.replicate 64 0)))) 49) (fun r => .pointer (some ⟨r, 0, none⟩)) (by kernel_rfl) (fun b23 w24 H => ?_)
      refine wc_st (b := b23) (off := 0) (Tb := 49) (vs := ([.int .u8 ((rdM b).k), .int .u64 ((rdM b).f), .int .u64 ((rdM b).t), .int .u64 ((rdM b).a), .int .u64 ((rdM b).n)] ++ ((iv .u8 ((rdM b).x)) ++ (iv .u8 ((rdM b).y))))) (cs' := ([.int .u8 ((rdM b).k), .int .u64 ((rdM b).f), .int .u64 ((rdM b).t), .int .u64 ((rdM b).a), .int .u64 ((rdM b).n)] ++ ((iv .u8 ((rdM b).x)) ++ (iv .u8 ((rdM b).y))))) H 0 49 (.agg ([.int .u8 ((rdM b).k), .int .u64 ((rdM b).f), .int .u64 ((rdM b).t), .int .u64 ((rdM b).a), .int .u64 ((rdM b).n)] ++ ((iv .u8 ((rdM b).x)) ++ (iv .u8 ((rdM b).y))) : List Value).toArray) 69 (by kernel_rfl) rfl rfl (by exact (lenA (rfl : ([.int .u8 ((rdM b).k), .int .u64 ((rdM b).f), .int .u64 ((rdM b).t), .int .u64 ((rdM b).a), .int .u64 ((rdM b).n)] : List Value).length = 5) (lenA ((iv_length .u8 ((rdM b).x)).trans hf21) ((iv_length .u8 ((rdM b).y)).trans hf22)))) (by have h : ([.int .u8 0] ++ ((iv .u64 (List.replicate 4 0)) ++ (iv .u8 (List.replicate 64 0))) : List Value).length = 69 := (lenA (rfl : ([.int .u8 0] : List Value).length = 1) (lenA ((iv_length .u64 (List.replicate 4 0)).trans List.length_replicate) ((iv_length .u8 (List.replicate 64 0)).trans List.length_replicate))); omega) (by exact (flA (by simp [Value.oneCell']) (flA (iv_flat _ _) (iv_flat _ _)))) (by exact blit_all _ _ ((show ([.int .u8 ((rdM b).k), .int .u64 ((rdM b).f), .int .u64 ((rdM b).t), .int .u64 ((rdM b).a), .int .u64 ((rdM b).n)] ++ ((iv .u8 ((rdM b).x)) ++ (iv .u8 ((rdM b).y))) : List Value).length = 69 from (lenA (rfl : ([.int .u8 ((rdM b).k), .int .u64 ((rdM b).f), .int .u64 ((rdM b).t), .int .u64 ((rdM b).a), .int .u64 ((rdM b).n)] : List Value).length = 5) (lenA ((iv_length .u8 ((rdM b).x)).trans hf21) ((iv_length .u8 ((rdM b).y)).trans hf22)))).trans (show ([.int .u8 0] ++ ((iv .u64 (List.replicate 4 0)) ++ (iv .u8 (List.replicate 64 0))) : List Value).length = 69 from (lenA (rfl : ([.int .u8 0] : List Value).length = 1) (lenA ((iv_length .u64 (List.replicate 4 0)).trans List.length_replicate) ((iv_length .u8 (List.replicate 64 0)).trans List.length_replicate)))).symm)) (fun w25 H => ?_)
      dsimp only [List.set] at H
      refine wc_run (T' := [(1, .slice A b.length c), (9, .pointer (some ⟨b23, 0, none⟩)), (10, .int .i64 (rdE b))]) (L2 := (rng 8 0)) 1 [1, 9, 10] (by kernel_rfl) ?_
      refine wc_nil rfl ?_
      refine n_sq ?_
      refine wn_seq (by kernel_rfl) ?_
      refine wn_seq (by kernel_rfl) ?_
      refine wn_reg 2 (by kernel_rfl) ?_
      refine wc_run (T' := [(1, .slice A b.length c), (9, .pointer (some ⟨b23, 0, none⟩)), (43, .bool ((rdE b) != (0 : Int)))]) (L2 := (rng 2 0)) 2 [1, 9, 43] (by kernel_rfl) ?_
      refine wc_nil rfl ?_
      refine n_sq ?_
      refine wn_cond (.tmp 43) ((rdE b) != (0 : Int)) (by kernel_rfl) rfl (fun hc26 => ?_) (fun hc26 => ?_)
      · have hc26 := bneT hc26
        refine wn_seq (by kernel_rfl) ?_
        refine wn_reg 7 (by kernel_rfl) ?_
        refine wc_call (some 44) (by kernel_rfl) (proctorlaw07_anchored w25) ?_
        rintro _ w27 ⟨rfl, H1⟩
        refine ⟨_, rfl, fun _ => H1.keep, ?_⟩
        replace H := H.call H1
        simp only [List.nil_append] at H
        refine wc_run (T' := [(9, .pointer (some ⟨b23, 0, none⟩)), (45, .bool true)]) (L2 := (rng 2 5)) 1 [9, 45] (by kernel_rfl) ?_
        refine wc_ld (b := b23) (off := 0) (some 46) 49 (.agg ([.int .u8 ((rdM b).k), .int .u64 ((rdM b).f), .int .u64 ((rdM b).t), .int .u64 ((rdM b).a), .int .u64 ((rdM b).n)] ++ ((iv .u8 ((rdM b).x)) ++ (iv .u8 ((rdM b).y))) : List Value).toArray) (by kernel_rfl) (Ld.entW H 0 (n := 69) rfl (by kernel_rfl) (by exact (lenA (rfl : ([.int .u8 ((rdM b).k), .int .u64 ((rdM b).f), .int .u64 ((rdM b).t), .int .u64 ((rdM b).a), .int .u64 ((rdM b).n)] : List Value).length = 5) (lenA ((iv_length .u8 ((rdM b).x)).trans hf21) ((iv_length .u8 ((rdM b).y)).trans hf22))))) ?_
        refine wc_run (T' := [(45, .bool true), (46, .agg ([.int .u8 ((rdM b).k), .int .u64 ((rdM b).f), .int .u64 ((rdM b).t), .int .u64 ((rdM b).a), .int .u64 ((rdM b).n)] ++ ((iv .u8 ((rdM b).x)) ++ (iv .u8 ((rdM b).y))) : List Value).toArray), (47, .agg ([.int .u8 0] ++ ((iv .u64 (List.replicate 4 0)) ++ (iv .u8 (List.replicate 64 0))) : List Value).toArray)]) (L2 := (rng 4 3)) 1 [45, 46, 47] (by kernel_rfl) ?_
        refine wc_eqA (c := decide (((rdM b).k = 0 ∧ (rdM b).f = 0 ∧ (rdM b).t = 0 ∧ (rdM b).a = 0 ∧ (rdM b).n = 0) ∧ (((rdM b).x) = (List.replicate 32 0) ∧ ((rdM b).y) = (List.replicate 32 0)))) 20 (some 48) 49 true ([.int .u8 ((rdM b).k), .int .u64 ((rdM b).f), .int .u64 ((rdM b).t), .int .u64 ((rdM b).a), .int .u64 ((rdM b).n)] ++ ((iv .u8 ((rdM b).x)) ++ (iv .u8 ((rdM b).y)))) ([.int .u8 0, .int .u64 0, .int .u64 0, .int .u64 0, .int .u64 0] ++ ((iv .u8 (List.replicate 32 0)) ++ (iv .u8 (List.replicate 32 0)))) (by kernel_rfl) (by have h := EqV.flat (P := Try.prog) (n := 20) (t := 49) (ks := ([CK.int .u8, CK.int .u64, CK.int .u64, CK.int .u64, CK.int .u64] ++ ((List.replicate 32 (CK.int .u8)) ++ (List.replicate 32 (CK.int .u8))))) (by kernel_rfl) (a := ([.int .u8 ((rdM b).k), .int .u64 ((rdM b).f), .int .u64 ((rdM b).t), .int .u64 ((rdM b).a), .int .u64 ((rdM b).n)] ++ ((iv .u8 ((rdM b).x)) ++ (iv .u8 ((rdM b).y))) : List Value)) (b := ([.int .u8 0, .int .u64 0, .int .u64 0, .int .u64 0, .int .u64 0] ++ ((iv .u8 (List.replicate 32 0)) ++ (iv .u8 (List.replicate 32 0))) : List Value)) (kdA rfl (kdA (kd_ivn (hf21)) (kd_ivn (hf22)))) (kdA rfl (kdA (kd_ivn (List.length_replicate)) (kd_ivn (List.length_replicate)))) (decide (((rdM b).k = 0 ∧ (rdM b).f = 0 ∧ (rdM b).t = 0 ∧ (rdM b).a = 0 ∧ (rdM b).n = 0) ∧ (((rdM b).x) = (List.replicate 32 0) ∧ ((rdM b).y) = (List.replicate 32 0)))) (dec_iff (eqA rfl (show ([.int .u8 ((rdM b).k), .int .u64 ((rdM b).f), .int .u64 ((rdM b).t), .int .u64 ((rdM b).a), .int .u64 ((rdM b).n)] : List Value) = [.int .u8 0, .int .u64 0, .int .u64 0, .int .u64 0, .int .u64 0] ↔ (rdM b).k = 0 ∧ (rdM b).f = 0 ∧ (rdM b).t = 0 ∧ (rdM b).a = 0 ∧ (rdM b).n = 0 by simp) (eqA (((iv_length _ _).trans (hf21)).trans ((iv_length _ _).trans (List.length_replicate)).symm) iv_inj iv_inj))); exact h) ?_
        simp only [if_true, Bool.false_eq_true, if_false]
        refine wc_run (T' := [(4, .bool (decide (((rdM b).k = 0 ∧ (rdM b).f = 0 ∧ (rdM b).t = 0 ∧ (rdM b).a = 0 ∧ (rdM b).n = 0) ∧ (((rdM b).x) = (List.replicate 32 0) ∧ ((rdM b).y) = (List.replicate 32 0)))))]) (L2 := (rng 7 0)) 2 [4] (by kernel_rfl) ?_
        refine wc_nil rfl ?_
        refine n_sq ?_
        refine wn_ret (by kernel_rfl) ?_
        refine r_sq ?_
        refine ret1 _ (Or.inr rfl) Try.results7 rfl ?_
        have he28 : true = decide (((rdM b).k = 0 ∧ (rdM b).f = 0 ∧ (rdM b).t = 0 ∧ (rdM b).a = 0 ∧ (rdM b).n = 0) ∧ (((rdM b).x) = (List.replicate 32 0) ∧ ((rdM b).y) = (List.replicate 32 0))) := by
          simp_all
        exact ⟨by first | (rw [he28]; done) | (rw [he28]; rfl), H.nil⟩
      · have hc26 := bneF hc26
        refine wn_skip (by kernel_rfl) ?_
        refine n_sq ?_
        refine wn_seq (by kernel_rfl) ?_
        refine wn_reg 7 (by kernel_rfl) ?_
        refine wc_ld (b := b23) (off := 0) (some 51) 49 (.agg ([.int .u8 ((rdM b).k), .int .u64 ((rdM b).f), .int .u64 ((rdM b).t), .int .u64 ((rdM b).a), .int .u64 ((rdM b).n)] ++ ((iv .u8 ((rdM b).x)) ++ (iv .u8 ((rdM b).y))) : List Value).toArray) (by kernel_rfl) (Ld.entW H 0 (n := 69) rfl (by kernel_rfl) (by exact (lenA (rfl : ([.int .u8 ((rdM b).k), .int .u64 ((rdM b).f), .int .u64 ((rdM b).t), .int .u64 ((rdM b).a), .int .u64 ((rdM b).n)] : List Value).length = 5) (lenA ((iv_length .u8 ((rdM b).x)).trans hf21) ((iv_length .u8 ((rdM b).y)).trans hf22))))) ?_
        refine wc_call (some 52) (by kernel_rfl) (msg_Write w25 ((rdM b).k) ((rdM b).f) ((rdM b).t) ((rdM b).a) ((rdM b).n) ((rdM b).x) ((rdM b).y) hf21 hf22 (rdM_rk b) (rdM_rf b) (rdM_rt b) (rdM_ra b) (rdM_rn b) (rdM_rx b) (rdM_ry b)) ?_
        rintro _ w31 ⟨A29, c30, rfl, H1, hf32, hf33, hf34⟩
        refine ⟨_, rfl, fun _ => H1.keep, ?_⟩
        replace H := H.call H1
        simp only [List.nil_append, List.cons_append] at H
        refine wc_run (T' := [(1, .slice A b.length c), (9, .pointer (some ⟨b23, 0, none⟩)), (11, .slice A29 ((wrM ((rdM b).k) ((rdM b).f) ((rdM b).t) ((rdM b).a) ((rdM b).n) ((rdM b).x) ((rdM b).y)).length) c30), (12, .int .i64 (wrE ((rdM b).k) ((rdM b).f) ((rdM b).t) ((rdM b).a) ((rdM b).n) ((rdM b).x) ((rdM b).y)))]) (L2 := (rng 7 0)) 5 [1, 9, 11, 12] (by kernel_rfl) ?_
        refine wc_nil rfl ?_
        refine n_sq ?_
        refine wn_seq (by kernel_rfl) ?_
        refine wn_reg 15 (by kernel_rfl) ?_
        refine wc_call (some 55) (by kernel_rfl) (proctorlaw07_anchored w31) ?_
        rintro _ w35 ⟨rfl, H1⟩
        refine ⟨_, rfl, fun _ => H1.keep, ?_⟩
        replace H := H.call H1
        simp only [List.nil_append] at H
        refine wc_run (T' := [(1, .slice A b.length c), (9, .pointer (some ⟨b23, 0, none⟩)), (11, .slice A29 ((wrM ((rdM b).k) ((rdM b).f) ((rdM b).t) ((rdM b).a) ((rdM b).n) ((rdM b).x) ((rdM b).y)).length) c30), (60, .bool ((wrE ((rdM b).k) ((rdM b).f) ((rdM b).t) ((rdM b).a) ((rdM b).n) ((rdM b).x) ((rdM b).y)) == (0 : Int)))]) (L2 := (rng 6 9)) 5 [1, 9, 11, 60] (by kernel_rfl) ?_
        rcases Bool.eq_false_or_eq_true ((wrE ((rdM b).k) ((rdM b).f) ((rdM b).t) ((rdM b).a) ((rdM b).n) ((rdM b).x) ((rdM b).y)) == (0 : Int)) with hg36 | hg36
        · rw [hg36]
          have hg36 := eq_of_beq hg36
          refine wc_run (T' := [(9, .pointer (some ⟨b23, 0, none⟩)), (60, .bool true), (61, .slice A29 ((wrM ((rdM b).k) ((rdM b).f) ((rdM b).t) ((rdM b).a) ((rdM b).n) ((rdM b).x) ((rdM b).y)).length) c30), (62, .slice A b.length c)]) (L2 := (rng 8 7)) 2 [9, 60, 61, 62] (by kernel_rfl) ?_
          refine wc_call (some 63) (by kernel_rfl) (proctorref01_Same w35 (wrM ((rdM b).k) ((rdM b).f) ((rdM b).t) ((rdM b).a) ((rdM b).n) ((rdM b).x) ((rdM b).y)) A29 c30 b A c (Rd.sl H 0 rfl) (hb.keep H.keep) (by first | with_reducible assumption | omega | (simp_all; done)) (by first | with_reducible assumption | omega | (simp_all; done))) ?_
          rintro _ w37 ⟨rfl, H1⟩
          refine ⟨_, rfl, fun _ => H1.keep, ?_⟩
          replace H := H.call H1
          simp only [List.nil_append] at H
          refine wc_run (T' := [(9, .pointer (some ⟨b23, 0, none⟩)), (65, .bool (decide ((wrM ((rdM b).k) ((rdM b).f) ((rdM b).t) ((rdM b).a) ((rdM b).n) ((rdM b).x) ((rdM b).y)) = b)))]) (L2 := (rng 11 4)) 2 [9, 65] (by kernel_rfl) ?_
          by_cases hg38 : (wrM ((rdM b).k) ((rdM b).f) ((rdM b).t) ((rdM b).a) ((rdM b).n) ((rdM b).x) ((rdM b).y)) = b
          · rw [decide_eq_true hg38]
            refine wc_ld (b := b23) (off := 0) (some 66) 49 (.agg ([.int .u8 ((rdM b).k), .int .u64 ((rdM b).f), .int .u64 ((rdM b).t), .int .u64 ((rdM b).a), .int .u64 ((rdM b).n)] ++ ((iv .u8 ((rdM b).x)) ++ (iv .u8 ((rdM b).y))) : List Value).toArray) (by kernel_rfl) (Ld.entW H 1 (n := 69) rfl (by kernel_rfl) (by exact (lenA (rfl : ([.int .u8 ((rdM b).k), .int .u64 ((rdM b).f), .int .u64 ((rdM b).t), .int .u64 ((rdM b).a), .int .u64 ((rdM b).n)] : List Value).length = 5) (lenA ((iv_length .u8 ((rdM b).x)).trans hf21) ((iv_length .u8 ((rdM b).y)).trans hf22))))) ?_
            refine wc_call (some 67) (by kernel_rfl) (msg_May w37 ((rdM b).k) ((rdM b).f) ((rdM b).t) ((rdM b).a) ((rdM b).n) ((rdM b).x) ((rdM b).y) hf21 hf22 (rdM_rk b) (rdM_rf b) (rdM_rt b) (rdM_ra b) (rdM_rn b) (rdM_rx b) (rdM_ry b)) ?_
            rintro _ w39 ⟨rfl, H1⟩
            refine ⟨_, rfl, fun _ => H1.keep, ?_⟩
            replace H := H.call H1
            simp only [List.nil_append] at H
            refine wc_run (T' := [(4, .bool (mayM ((rdM b).k) ((rdM b).f) ((rdM b).t) ((rdM b).a) ((rdM b).n) ((rdM b).x) ((rdM b).y)))]) (L2 := (rng 15 0)) 2 [4] (by kernel_rfl) ?_
            refine wc_nil rfl ?_
            refine n_sq ?_
            refine wn_ret (by kernel_rfl) ?_
            refine ret1 _ (Or.inr rfl) Try.results7 rfl ?_
            have he40 : true = mayM ((rdM b).k) ((rdM b).f) ((rdM b).t) ((rdM b).a) ((rdM b).n) ((rdM b).x) ((rdM b).y) := by
              simp_all
            exact ⟨by first | (rw [he40]; done) | (rw [he40]; rfl), H.nil⟩
          · rw [decide_eq_false hg38]
            refine wc_run (T' := [(65, .bool false), (66, .tuple #[])]) (L2 := (rng 12 3)) 1 [65, 66] (by kernel_rfl) ?_
            refine wc_skip (some 67) (by kernel_rfl) ?_
            refine wc_run (T' := [(4, .bool false)]) (L2 := (rng 15 0)) 2 [4] (by kernel_rfl) ?_
            refine wc_nil rfl ?_
            refine n_sq ?_
            refine wn_ret (by kernel_rfl) ?_
            refine ret1 _ (Or.inr rfl) Try.results7 rfl ?_
            have he41 : true = false := by
              simp_all
            exact ⟨by first | (rw [he41]; done) | (rw [he41]; rfl), H.nil⟩
        · rw [hg36]
          have hg36 := ne_of_beq_false hg36
          refine wc_run (T' := [(9, .pointer (some ⟨b23, 0, none⟩)), (60, .bool false), (61, .tuple #[]), (62, .tuple #[])]) (L2 := (rng 8 7)) 2 [9, 60, 61, 62] (by kernel_rfl) ?_
          refine wc_skip (some 63) (by kernel_rfl) ?_
          refine wc_run (T' := [(65, .bool false), (66, .tuple #[])]) (L2 := (rng 12 3)) 3 [65, 66] (by kernel_rfl) ?_
          refine wc_skip (some 67) (by kernel_rfl) ?_
          refine wc_run (T' := [(4, .bool false)]) (L2 := (rng 15 0)) 2 [4] (by kernel_rfl) ?_
          refine wc_nil rfl ?_
          refine n_sq ?_
          refine wn_ret (by kernel_rfl) ?_
          refine ret1 _ (Or.inr rfl) Try.results7 rfl ?_
          have he42 : true = false := by
            simp_all
          exact ⟨by first | (rw [he42]; done) | (rw [he42]; rfl), H.nil⟩
  · have hc9 := ne_of_beq_false hc9
    refine wn_skip (by kernel_rfl) ?_
    refine n_sq ?_
    refine wn_seq (by kernel_rfl) ?_
    refine wn_reg 8 (by kernel_rfl) ?_
    refine wc_run (T' := [(1, .slice A b.length c), (38, .slice A b.length c)]) (L2 := (rng 1 7)) 1 [1, 38] (by kernel_rfl) ?_
    refine wc_call (some 39) (by kernel_rfl) (msg_Read w5 b A c (hb.keep H.keep) hr hnb) ?_
    rintro _ w43 ⟨rfl, H1, hf44, hf45⟩
    refine ⟨_, rfl, fun _ => H1.keep, ?_⟩
    replace H := H.call H1
    simp only [List.nil_append] at H
    refine wc_run (T' := [(1, .slice A b.length c), (40, .agg ([.int .u8 ((rdM b).k), .int .u64 ((rdM b).f), .int .u64 ((rdM b).t), .int .u64 ((rdM b).a), .int .u64 ((rdM b).n)] ++ ((iv .u8 ((rdM b).x)) ++ (iv .u8 ((rdM b).y))) : List Value).toArray), (41, .int .i64 (rdE b))]) (L2 := (rng 5 3)) 3 [1, 40, 41] (by kernel_rfl) ?_
    refine wc_new H (some 9) (row ([.int .u8 0] ++ ((iv .u64 (List.replicate 4 0)) ++ (iv .u8 (List.replicate 64 0)))) 49) (fun r => .pointer (some ⟨r, 0, none⟩)) (by kernel_rfl) (fun b46 w47 H => ?_)
    refine wc_st (b := b46) (off := 0) (Tb := 49) (vs := ([.int .u8 ((rdM b).k), .int .u64 ((rdM b).f), .int .u64 ((rdM b).t), .int .u64 ((rdM b).a), .int .u64 ((rdM b).n)] ++ ((iv .u8 ((rdM b).x)) ++ (iv .u8 ((rdM b).y))))) (cs' := ([.int .u8 ((rdM b).k), .int .u64 ((rdM b).f), .int .u64 ((rdM b).t), .int .u64 ((rdM b).a), .int .u64 ((rdM b).n)] ++ ((iv .u8 ((rdM b).x)) ++ (iv .u8 ((rdM b).y))))) H 0 49 (.agg ([.int .u8 ((rdM b).k), .int .u64 ((rdM b).f), .int .u64 ((rdM b).t), .int .u64 ((rdM b).a), .int .u64 ((rdM b).n)] ++ ((iv .u8 ((rdM b).x)) ++ (iv .u8 ((rdM b).y))) : List Value).toArray) 69 (by kernel_rfl) rfl rfl (by exact (lenA (rfl : ([.int .u8 ((rdM b).k), .int .u64 ((rdM b).f), .int .u64 ((rdM b).t), .int .u64 ((rdM b).a), .int .u64 ((rdM b).n)] : List Value).length = 5) (lenA ((iv_length .u8 ((rdM b).x)).trans hf44) ((iv_length .u8 ((rdM b).y)).trans hf45)))) (by have h : ([.int .u8 0] ++ ((iv .u64 (List.replicate 4 0)) ++ (iv .u8 (List.replicate 64 0))) : List Value).length = 69 := (lenA (rfl : ([.int .u8 0] : List Value).length = 1) (lenA ((iv_length .u64 (List.replicate 4 0)).trans List.length_replicate) ((iv_length .u8 (List.replicate 64 0)).trans List.length_replicate))); omega) (by exact (flA (by simp [Value.oneCell']) (flA (iv_flat _ _) (iv_flat _ _)))) (by exact blit_all _ _ ((show ([.int .u8 ((rdM b).k), .int .u64 ((rdM b).f), .int .u64 ((rdM b).t), .int .u64 ((rdM b).a), .int .u64 ((rdM b).n)] ++ ((iv .u8 ((rdM b).x)) ++ (iv .u8 ((rdM b).y))) : List Value).length = 69 from (lenA (rfl : ([.int .u8 ((rdM b).k), .int .u64 ((rdM b).f), .int .u64 ((rdM b).t), .int .u64 ((rdM b).a), .int .u64 ((rdM b).n)] : List Value).length = 5) (lenA ((iv_length .u8 ((rdM b).x)).trans hf44) ((iv_length .u8 ((rdM b).y)).trans hf45)))).trans (show ([.int .u8 0] ++ ((iv .u64 (List.replicate 4 0)) ++ (iv .u8 (List.replicate 64 0))) : List Value).length = 69 from (lenA (rfl : ([.int .u8 0] : List Value).length = 1) (lenA ((iv_length .u64 (List.replicate 4 0)).trans List.length_replicate) ((iv_length .u8 (List.replicate 64 0)).trans List.length_replicate)))).symm)) (fun w48 H => ?_)
    dsimp only [List.set] at H
    refine wc_run (T' := [(1, .slice A b.length c), (9, .pointer (some ⟨b46, 0, none⟩)), (10, .int .i64 (rdE b))]) (L2 := (rng 8 0)) 1 [1, 9, 10] (by kernel_rfl) ?_
    refine wc_nil rfl ?_
    refine n_sq ?_
    refine wn_seq (by kernel_rfl) ?_
    refine wn_seq (by kernel_rfl) ?_
    refine wn_reg 2 (by kernel_rfl) ?_
    refine wc_run (T' := [(1, .slice A b.length c), (9, .pointer (some ⟨b46, 0, none⟩)), (43, .bool ((rdE b) != (0 : Int)))]) (L2 := (rng 2 0)) 2 [1, 9, 43] (by kernel_rfl) ?_
    refine wc_nil rfl ?_
    refine n_sq ?_
    refine wn_cond (.tmp 43) ((rdE b) != (0 : Int)) (by kernel_rfl) rfl (fun hc49 => ?_) (fun hc49 => ?_)
    · have hc49 := bneT hc49
      refine wn_seq (by kernel_rfl) ?_
      refine wn_reg 7 (by kernel_rfl) ?_
      refine wc_call (some 44) (by kernel_rfl) (proctorlaw07_anchored w48) ?_
      rintro _ w50 ⟨rfl, H1⟩
      refine ⟨_, rfl, fun _ => H1.keep, ?_⟩
      replace H := H.call H1
      simp only [List.nil_append] at H
      refine wc_run (T' := [(9, .pointer (some ⟨b46, 0, none⟩)), (45, .bool true)]) (L2 := (rng 2 5)) 1 [9, 45] (by kernel_rfl) ?_
      refine wc_ld (b := b46) (off := 0) (some 46) 49 (.agg ([.int .u8 ((rdM b).k), .int .u64 ((rdM b).f), .int .u64 ((rdM b).t), .int .u64 ((rdM b).a), .int .u64 ((rdM b).n)] ++ ((iv .u8 ((rdM b).x)) ++ (iv .u8 ((rdM b).y))) : List Value).toArray) (by kernel_rfl) (Ld.entW H 0 (n := 69) rfl (by kernel_rfl) (by exact (lenA (rfl : ([.int .u8 ((rdM b).k), .int .u64 ((rdM b).f), .int .u64 ((rdM b).t), .int .u64 ((rdM b).a), .int .u64 ((rdM b).n)] : List Value).length = 5) (lenA ((iv_length .u8 ((rdM b).x)).trans hf44) ((iv_length .u8 ((rdM b).y)).trans hf45))))) ?_
      refine wc_run (T' := [(45, .bool true), (46, .agg ([.int .u8 ((rdM b).k), .int .u64 ((rdM b).f), .int .u64 ((rdM b).t), .int .u64 ((rdM b).a), .int .u64 ((rdM b).n)] ++ ((iv .u8 ((rdM b).x)) ++ (iv .u8 ((rdM b).y))) : List Value).toArray), (47, .agg ([.int .u8 0] ++ ((iv .u64 (List.replicate 4 0)) ++ (iv .u8 (List.replicate 64 0))) : List Value).toArray)]) (L2 := (rng 4 3)) 1 [45, 46, 47] (by kernel_rfl) ?_
      refine wc_eqA (c := decide (((rdM b).k = 0 ∧ (rdM b).f = 0 ∧ (rdM b).t = 0 ∧ (rdM b).a = 0 ∧ (rdM b).n = 0) ∧ (((rdM b).x) = (List.replicate 32 0) ∧ ((rdM b).y) = (List.replicate 32 0)))) 20 (some 48) 49 true ([.int .u8 ((rdM b).k), .int .u64 ((rdM b).f), .int .u64 ((rdM b).t), .int .u64 ((rdM b).a), .int .u64 ((rdM b).n)] ++ ((iv .u8 ((rdM b).x)) ++ (iv .u8 ((rdM b).y)))) ([.int .u8 0, .int .u64 0, .int .u64 0, .int .u64 0, .int .u64 0] ++ ((iv .u8 (List.replicate 32 0)) ++ (iv .u8 (List.replicate 32 0)))) (by kernel_rfl) (by have h := EqV.flat (P := Try.prog) (n := 20) (t := 49) (ks := ([CK.int .u8, CK.int .u64, CK.int .u64, CK.int .u64, CK.int .u64] ++ ((List.replicate 32 (CK.int .u8)) ++ (List.replicate 32 (CK.int .u8))))) (by kernel_rfl) (a := ([.int .u8 ((rdM b).k), .int .u64 ((rdM b).f), .int .u64 ((rdM b).t), .int .u64 ((rdM b).a), .int .u64 ((rdM b).n)] ++ ((iv .u8 ((rdM b).x)) ++ (iv .u8 ((rdM b).y))) : List Value)) (b := ([.int .u8 0, .int .u64 0, .int .u64 0, .int .u64 0, .int .u64 0] ++ ((iv .u8 (List.replicate 32 0)) ++ (iv .u8 (List.replicate 32 0))) : List Value)) (kdA rfl (kdA (kd_ivn (hf44)) (kd_ivn (hf45)))) (kdA rfl (kdA (kd_ivn (List.length_replicate)) (kd_ivn (List.length_replicate)))) (decide (((rdM b).k = 0 ∧ (rdM b).f = 0 ∧ (rdM b).t = 0 ∧ (rdM b).a = 0 ∧ (rdM b).n = 0) ∧ (((rdM b).x) = (List.replicate 32 0) ∧ ((rdM b).y) = (List.replicate 32 0)))) (dec_iff (eqA rfl (show ([.int .u8 ((rdM b).k), .int .u64 ((rdM b).f), .int .u64 ((rdM b).t), .int .u64 ((rdM b).a), .int .u64 ((rdM b).n)] : List Value) = [.int .u8 0, .int .u64 0, .int .u64 0, .int .u64 0, .int .u64 0] ↔ (rdM b).k = 0 ∧ (rdM b).f = 0 ∧ (rdM b).t = 0 ∧ (rdM b).a = 0 ∧ (rdM b).n = 0 by simp) (eqA (((iv_length _ _).trans (hf44)).trans ((iv_length _ _).trans (List.length_replicate)).symm) iv_inj iv_inj))); exact h) ?_
      simp only [if_true, Bool.false_eq_true, if_false]
      refine wc_run (T' := [(4, .bool (decide (((rdM b).k = 0 ∧ (rdM b).f = 0 ∧ (rdM b).t = 0 ∧ (rdM b).a = 0 ∧ (rdM b).n = 0) ∧ (((rdM b).x) = (List.replicate 32 0) ∧ ((rdM b).y) = (List.replicate 32 0)))))]) (L2 := (rng 7 0)) 2 [4] (by kernel_rfl) ?_
      refine wc_nil rfl ?_
      refine n_sq ?_
      refine wn_ret (by kernel_rfl) ?_
      refine r_sq ?_
      refine ret1 _ (Or.inr rfl) Try.results7 rfl ?_
      have he51 : true = decide (((rdM b).k = 0 ∧ (rdM b).f = 0 ∧ (rdM b).t = 0 ∧ (rdM b).a = 0 ∧ (rdM b).n = 0) ∧ (((rdM b).x) = (List.replicate 32 0) ∧ ((rdM b).y) = (List.replicate 32 0))) := by
        simp_all
      exact ⟨by first | (rw [he51]; done) | (rw [he51]; rfl), H.nil⟩
    · have hc49 := bneF hc49
      refine wn_skip (by kernel_rfl) ?_
      refine n_sq ?_
      refine wn_seq (by kernel_rfl) ?_
      refine wn_reg 7 (by kernel_rfl) ?_
      refine wc_ld (b := b46) (off := 0) (some 51) 49 (.agg ([.int .u8 ((rdM b).k), .int .u64 ((rdM b).f), .int .u64 ((rdM b).t), .int .u64 ((rdM b).a), .int .u64 ((rdM b).n)] ++ ((iv .u8 ((rdM b).x)) ++ (iv .u8 ((rdM b).y))) : List Value).toArray) (by kernel_rfl) (Ld.entW H 0 (n := 69) rfl (by kernel_rfl) (by exact (lenA (rfl : ([.int .u8 ((rdM b).k), .int .u64 ((rdM b).f), .int .u64 ((rdM b).t), .int .u64 ((rdM b).a), .int .u64 ((rdM b).n)] : List Value).length = 5) (lenA ((iv_length .u8 ((rdM b).x)).trans hf44) ((iv_length .u8 ((rdM b).y)).trans hf45))))) ?_
      refine wc_call (some 52) (by kernel_rfl) (msg_Write w48 ((rdM b).k) ((rdM b).f) ((rdM b).t) ((rdM b).a) ((rdM b).n) ((rdM b).x) ((rdM b).y) hf44 hf45 (rdM_rk b) (rdM_rf b) (rdM_rt b) (rdM_ra b) (rdM_rn b) (rdM_rx b) (rdM_ry b)) ?_
      rintro _ w54 ⟨A52, c53, rfl, H1, hf55, hf56, hf57⟩
      refine ⟨_, rfl, fun _ => H1.keep, ?_⟩
      replace H := H.call H1
      simp only [List.nil_append, List.cons_append] at H
      refine wc_run (T' := [(1, .slice A b.length c), (9, .pointer (some ⟨b46, 0, none⟩)), (11, .slice A52 ((wrM ((rdM b).k) ((rdM b).f) ((rdM b).t) ((rdM b).a) ((rdM b).n) ((rdM b).x) ((rdM b).y)).length) c53), (12, .int .i64 (wrE ((rdM b).k) ((rdM b).f) ((rdM b).t) ((rdM b).a) ((rdM b).n) ((rdM b).x) ((rdM b).y)))]) (L2 := (rng 7 0)) 5 [1, 9, 11, 12] (by kernel_rfl) ?_
      refine wc_nil rfl ?_
      refine n_sq ?_
      refine wn_seq (by kernel_rfl) ?_
      refine wn_reg 15 (by kernel_rfl) ?_
      refine wc_call (some 55) (by kernel_rfl) (proctorlaw07_anchored w54) ?_
      rintro _ w58 ⟨rfl, H1⟩
      refine ⟨_, rfl, fun _ => H1.keep, ?_⟩
      replace H := H.call H1
      simp only [List.nil_append] at H
      refine wc_run (T' := [(1, .slice A b.length c), (9, .pointer (some ⟨b46, 0, none⟩)), (11, .slice A52 ((wrM ((rdM b).k) ((rdM b).f) ((rdM b).t) ((rdM b).a) ((rdM b).n) ((rdM b).x) ((rdM b).y)).length) c53), (60, .bool ((wrE ((rdM b).k) ((rdM b).f) ((rdM b).t) ((rdM b).a) ((rdM b).n) ((rdM b).x) ((rdM b).y)) == (0 : Int)))]) (L2 := (rng 6 9)) 5 [1, 9, 11, 60] (by kernel_rfl) ?_
      rcases Bool.eq_false_or_eq_true ((wrE ((rdM b).k) ((rdM b).f) ((rdM b).t) ((rdM b).a) ((rdM b).n) ((rdM b).x) ((rdM b).y)) == (0 : Int)) with hg59 | hg59
      · rw [hg59]
        have hg59 := eq_of_beq hg59
        refine wc_run (T' := [(9, .pointer (some ⟨b46, 0, none⟩)), (60, .bool true), (61, .slice A52 ((wrM ((rdM b).k) ((rdM b).f) ((rdM b).t) ((rdM b).a) ((rdM b).n) ((rdM b).x) ((rdM b).y)).length) c53), (62, .slice A b.length c)]) (L2 := (rng 8 7)) 2 [9, 60, 61, 62] (by kernel_rfl) ?_
        refine wc_call (some 63) (by kernel_rfl) (proctorref01_Same w58 (wrM ((rdM b).k) ((rdM b).f) ((rdM b).t) ((rdM b).a) ((rdM b).n) ((rdM b).x) ((rdM b).y)) A52 c53 b A c (Rd.sl H 0 rfl) (hb.keep H.keep) (by first | with_reducible assumption | omega | (simp_all; done)) (by first | with_reducible assumption | omega | (simp_all; done))) ?_
        rintro _ w60 ⟨rfl, H1⟩
        refine ⟨_, rfl, fun _ => H1.keep, ?_⟩
        replace H := H.call H1
        simp only [List.nil_append] at H
        refine wc_run (T' := [(9, .pointer (some ⟨b46, 0, none⟩)), (65, .bool (decide ((wrM ((rdM b).k) ((rdM b).f) ((rdM b).t) ((rdM b).a) ((rdM b).n) ((rdM b).x) ((rdM b).y)) = b)))]) (L2 := (rng 11 4)) 2 [9, 65] (by kernel_rfl) ?_
        by_cases hg61 : (wrM ((rdM b).k) ((rdM b).f) ((rdM b).t) ((rdM b).a) ((rdM b).n) ((rdM b).x) ((rdM b).y)) = b
        · rw [decide_eq_true hg61]
          refine wc_ld (b := b46) (off := 0) (some 66) 49 (.agg ([.int .u8 ((rdM b).k), .int .u64 ((rdM b).f), .int .u64 ((rdM b).t), .int .u64 ((rdM b).a), .int .u64 ((rdM b).n)] ++ ((iv .u8 ((rdM b).x)) ++ (iv .u8 ((rdM b).y))) : List Value).toArray) (by kernel_rfl) (Ld.entW H 1 (n := 69) rfl (by kernel_rfl) (by exact (lenA (rfl : ([.int .u8 ((rdM b).k), .int .u64 ((rdM b).f), .int .u64 ((rdM b).t), .int .u64 ((rdM b).a), .int .u64 ((rdM b).n)] : List Value).length = 5) (lenA ((iv_length .u8 ((rdM b).x)).trans hf44) ((iv_length .u8 ((rdM b).y)).trans hf45))))) ?_
          refine wc_call (some 67) (by kernel_rfl) (msg_May w60 ((rdM b).k) ((rdM b).f) ((rdM b).t) ((rdM b).a) ((rdM b).n) ((rdM b).x) ((rdM b).y) hf44 hf45 (rdM_rk b) (rdM_rf b) (rdM_rt b) (rdM_ra b) (rdM_rn b) (rdM_rx b) (rdM_ry b)) ?_
          rintro _ w62 ⟨rfl, H1⟩
          refine ⟨_, rfl, fun _ => H1.keep, ?_⟩
          replace H := H.call H1
          simp only [List.nil_append] at H
          refine wc_run (T' := [(4, .bool (mayM ((rdM b).k) ((rdM b).f) ((rdM b).t) ((rdM b).a) ((rdM b).n) ((rdM b).x) ((rdM b).y)))]) (L2 := (rng 15 0)) 2 [4] (by kernel_rfl) ?_
          refine wc_nil rfl ?_
          refine n_sq ?_
          refine wn_ret (by kernel_rfl) ?_
          refine ret1 _ (Or.inr rfl) Try.results7 rfl ?_
          have he63 : true = mayM ((rdM b).k) ((rdM b).f) ((rdM b).t) ((rdM b).a) ((rdM b).n) ((rdM b).x) ((rdM b).y) := by
            simp_all
          exact ⟨by first | (rw [he63]; done) | (rw [he63]; rfl), H.nil⟩
        · rw [decide_eq_false hg61]
          refine wc_run (T' := [(65, .bool false), (66, .tuple #[])]) (L2 := (rng 12 3)) 1 [65, 66] (by kernel_rfl) ?_
          refine wc_skip (some 67) (by kernel_rfl) ?_
          refine wc_run (T' := [(4, .bool false)]) (L2 := (rng 15 0)) 2 [4] (by kernel_rfl) ?_
          refine wc_nil rfl ?_
          refine n_sq ?_
          refine wn_ret (by kernel_rfl) ?_
          refine ret1 _ (Or.inr rfl) Try.results7 rfl ?_
          have he64 : true = false := by
            simp_all
          exact ⟨by first | (rw [he64]; done) | (rw [he64]; rfl), H.nil⟩
      · rw [hg59]
        have hg59 := ne_of_beq_false hg59
        refine wc_run (T' := [(9, .pointer (some ⟨b46, 0, none⟩)), (60, .bool false), (61, .tuple #[]), (62, .tuple #[])]) (L2 := (rng 8 7)) 2 [9, 60, 61, 62] (by kernel_rfl) ?_
        refine wc_skip (some 63) (by kernel_rfl) ?_
        refine wc_run (T' := [(65, .bool false), (66, .tuple #[])]) (L2 := (rng 12 3)) 3 [65, 66] (by kernel_rfl) ?_
        refine wc_skip (some 67) (by kernel_rfl) ?_
        refine wc_run (T' := [(4, .bool false)]) (L2 := (rng 15 0)) 2 [4] (by kernel_rfl) ?_
        refine wc_nil rfl ?_
        refine n_sq ?_
        refine wn_ret (by kernel_rfl) ?_
        refine ret1 _ (Or.inr rfl) Try.results7 rfl ?_
        have he65 : true = false := by
          simp_all
        exact ⟨by first | (rw [he65]; done) | (rw [he65]; rfl), H.nil⟩
end Go.Proofs.Ytfeecdcanjkohaa
