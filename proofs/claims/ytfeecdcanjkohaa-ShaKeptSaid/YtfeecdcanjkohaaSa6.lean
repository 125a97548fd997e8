/-
  Walks of some of this seat's functions: each call's answer, and what it leaves of memory. No condition beside those that stand in each theorem.
-/
import Derived.Test.YtfeecdcanjkohaaRows
import Derived.Test.YtfeecdcanjkohaaSa5
set_option linter.all false
namespace Go.Proofs.Ytfeecdcanjkohaa
open Go.RowKit Go.Px

theorem padF_range {b : List Int} (hr : ∀ j, 0 ≤ b.getD j 0 ∧ b.getD j 0 < 256) : ∀ x ∈ padF b, 0 ≤ x ∧ x < 256 := by
  intro x hx
  simp only [padF, List.mem_append, List.mem_cons] at hx
  rcases hx with (h | rfl | h) | h
  · exact mem_of_get (p := fun x => 0 ≤ x ∧ x < 256) hr x h
  · omega
  · have := List.eq_of_mem_replicate h; omega
  · exact ei8_range _ x h
theorem shaF_range (b : List Int) : ∀ x ∈ shaF b, 0 ≤ x ∧ x < 256 := by
  have key : ∀ n (q : List Int), (∀ x ∈ q, 0 ≤ x ∧ x < 256) → ∀ x ∈ itN (ouS (hN b)) n q, 0 ≤ x ∧ x < 256 := by
    intro n
    induction n with
    | zero => exact fun q h => h
    | succ n ih =>
      intro q h x hx
      simp only [itN, ouS] at hx
      rcases List.mem_or_eq_of_mem_set hx with h1 | rfl
      · exact ih q h x h1
      · unfold byt32; rw [wrap8]; omega
  exact key 32 _ (fun x hx => by have := List.eq_of_mem_replicate hx; omega)

noncomputable def cd_proctorref01_Sum : Code := (Try.f33.body).getD .skip
theorem proctorref01_Sum (w : World) (b : List Int) (B : Option Addr) (d : Nat) (hb : Rd w B (iv .u8 b)) (hn : b.length ≤ 140737488355000) (hr : ∀ j, 0 ≤ b.getD j 0 ∧ b.getD j 0 < 256) :
    Calls Try.prog 33 #[.slice B b.length d] w (fun e w' => e = .returned (.agg (iv .u8 (shaF b)).toArray) ∧ Hp no w w' [] ∧ (shaF b).length = 32) := by
  have hp := padF_mod b
  have hple := padF_le b
  have hpr := get_of_mem (p := fun x => 0 ≤ x ∧ x < 256) (by omega) (padF_range hr)
  refine enter (args := [_]) (c := cd_proctorref01_Sum) (N := 42) Try.func33 (by kernel_rfl) (by kernel_rfl) (by simp) ?_
  have H := Hp.start w
  refine wn_seq (by kernel_rfl) ?_
  refine wn_reg 1 (by kernel_rfl) ?_
  refine wc_new H (some 2) (row (iv .u8 (List.replicate 32 0)) 47) (fun r => .pointer (some ⟨r, 0, none⟩)) (by kernel_rfl) (fun b1 w2 H => ?_)
  refine wc_nil rfl ?_
  refine n_sq ?_
  refine wn_seq (by kernel_rfl) ?_
  refine wn_reg 3 (by kernel_rfl) ?_
  refine wc_run (T' := [(0, .slice B b.length d), (2, .pointer (some ⟨b1, 0, none⟩)), (8, .agg #[.int .u32 1779033703, .int .u32 3144134277, .int .u32 1013904242, .int .u32 2773480762, .int .u32 1359893119, .int .u32 2600822924, .int .u32 528734635, .int .u32 1541459225])]) (L2 := (rng 1 2)) 1 [0, 2, 8] (by kernel_rfl) ?_
  refine wc_new H (some 3) (row (iv .u32 (List.replicate 8 0)) 90) (fun r => .pointer (some ⟨r, 0, none⟩)) (by kernel_rfl) (fun b3 w4 H => ?_)
  refine wc_st (b := b3) (off := 0) (Tb := 90) (vs := ([.int .u32 1779033703, .int .u32 3144134277, .int .u32 1013904242, .int .u32 2773480762, .int .u32 1359893119, .int .u32 2600822924, .int .u32 528734635, .int .u32 1541459225])) (cs' := ([.int .u32 1779033703, .int .u32 3144134277, .int .u32 1013904242, .int .u32 2773480762, .int .u32 1359893119, .int .u32 2600822924, .int .u32 528734635, .int .u32 1541459225])) H 0 90 (.agg #[.int .u32 1779033703, .int .u32 3144134277, .int .u32 1013904242, .int .u32 2773480762, .int .u32 1359893119, .int .u32 2600822924, .int .u32 528734635, .int .u32 1541459225]) 8 (by kernel_rfl) rfl rfl (by rfl) (by have h := (iv_length .u32 (List.replicate 8 0)).trans List.length_replicate; omega) (by simp [Value.oneCell']) (by first | rfl | exact blit_all _ _ (by first | (simp only [iv_length, List.length_set, List.length_replicate, *]; done) | (simp [iv_length, *]; done) | (simp [Value.cells, iv_length, *]; done) | omega | (simp [Value.cells, iv_length] <;> omega)) | (simp [blit, List.drop_append, List.take_append, iv_length, *]; done)) (fun w5 H => ?_)
  dsimp only [List.set] at H
  refine wc_nil rfl ?_
  refine n_sq ?_
  refine wn_seq (by kernel_rfl) ?_
  refine wn_reg 3 (by kernel_rfl) ?_
  refine wc_run (T' := [(2, .pointer (some ⟨b1, 0, none⟩)), (3, .pointer (some ⟨b3, 0, none⟩)), (9, .slice B b.length d)]) (L2 := (rng 1 2)) 1 [2, 3, 9] (by kernel_rfl) ?_
  refine wc_call (some 10) (by kernel_rfl) (proctorref01_padded w5 b B d (hb.keep H.keep) hn) ?_
  rintro _ w8 ⟨A6, c7, rfl, H1⟩
  refine ⟨_, rfl, fun _ => H1.keep, ?_⟩
  replace H := H.call H1
  simp only [List.nil_append, List.cons_append] at H
  refine wc_run (T' := [(2, .pointer (some ⟨b1, 0, none⟩)), (3, .pointer (some ⟨b3, 0, none⟩)), (4, .slice A6 ((padF b).length) c7)]) (L2 := (rng 3 0)) 1 [2, 3, 4] (by kernel_rfl) ?_
  refine wc_nil rfl ?_
  refine n_sq ?_
  refine wn_seq (by kernel_rfl) ?_
  refine wn_seq (by kernel_rfl) ?_
  refine wn_reg 1 (by kernel_rfl) ?_
  refine wc_run (T' := [(2, .pointer (some ⟨b1, 0, none⟩)), (3, .pointer (some ⟨b3, 0, none⟩)), (4, .slice A6 ((padF b).length) c7), (5, .int .i64 0)]) (L2 := (rng 1 0)) 1 [2, 3, 4, 5] (by kernel_rfl) ?_
  refine wc_nil rfl ?_
  refine n_sq ?_
  refine wn_block 0 (by kernel_rfl) ?_
  have hcap := (H.slLen 0 rfl).2.1
  refine wn_loop (fun ((i, hv) : Int × List Int) => [(2, .pointer (some ⟨b1, 0, none⟩)), (3, .pointer (some ⟨b3, 0, none⟩)), (4, .slice A6 ((padF b).length) c7), (5, .int .i64 i)]) (fun ((i, hv) : Int × List Int) w' => Hp no w w' [.sl A6 ((padF b).length) c7 (iv .u8 (padF b)) 5 1, .bk b3 (row (iv .u32 hv) 90), .bk b1 (row (iv .u8 (List.replicate 32 0)) 47)] ∧ 0 ≤ i ∧ i % 64 = 0 ∧ i ≤ (padF b).length ∧ hv.length = 8 ∧ hv = itN (hnS (padF b)) (i.toNat / 64) H256) (fun ((i, hv) : Int × List Int) => ((padF b).length - i).toNat) ((0 : Int), [1779033703, 3144134277, 1013904242, 2773480762, 1359893119, 2600822924, 528734635, 1541459225]) [2, 3, 4, 5] (by kernel_rfl) rfl ⟨H, by exact ⟨by omega, by omega, by omega, rfl, rfl⟩⟩ ?_
  rintro ⟨i, hv⟩ w9 ⟨H, hi⟩
  try dsimp only at H hi
  refine wn_pick (T' := [(2, .pointer (some ⟨b1, 0, none⟩)), (3, .pointer (some ⟨b3, 0, none⟩)), (4, .slice A6 ((padF b).length) c7), (5, .int .i64 i)]) [2, 3, 4, 5] (by kernel_rfl) ?_
  have hh8 := hi.2.2.2.1
  refine wn_seq (by kernel_rfl) ?_
  refine wn_seq (by kernel_rfl) ?_
  refine wn_reg 4 (by kernel_rfl) ?_
  refine wc_run (T' := [(2, .pointer (some ⟨b1, 0, none⟩)), (3, .pointer (some ⟨b3, 0, none⟩)), (4, .slice A6 ((padF b).length) c7), (5, .int .i64 i), (14, .bool (decide (i < (↑((padF b).length) : Int))))]) (L2 := (rng 4 0)) 4 [2, 3, 4, 5, 14] (by kernel_rfl) ?_
  refine wc_nil rfl ?_
  refine n_sq ?_
  refine wn_cond (.tmp 14) (decide (i < (↑((padF b).length) : Int))) (by kernel_rfl) rfl (fun hc10 => ?_) (fun hc10 => ?_)
  · have hc10 := of_decide_eq_true hc10
    refine wn_skip (by kernel_rfl) ?_
    refine n_sq ?_
    refine wn_seq (by kernel_rfl) ?_
    refine wn_block 1 (by kernel_rfl) ?_
    refine wn_regD [] (ol [0, 1, 2, 3, 4, 5, 6, 7]) (by kernel_rfl) H (fun w11 H => ?_)
    refine wc_ld (b := b3) (off := 0) (some 17) 90 (.agg (iv .u32 hv).toArray) (by kernel_rfl) (Ld.entW H 1 (n := 8) rfl (by kernel_rfl) (by first | (simp only [iv_length, List.length_set, List.length_replicate, *]; done) | (simp [iv_length, *]; done) | (simp [Value.cells, iv_length, *]; done) | omega | (simp [Value.cells, iv_length] <;> omega))) ?_
    refine wc_run (T' := [(2, .pointer (some ⟨b1, 0, none⟩)), (3, .pointer (some ⟨b3, 0, none⟩)), (4, .slice A6 ((padF b).length) c7), (5, .int .i64 i), (17, .agg (iv .u32 hv).toArray), (18, .slice A6 ((padF b).length) c7), (19, .int .i64 i), (21, .int .i64 (IntKind.i64.wrap (i + 64)))]) (L2 := (ol [5, 6, 7])) 4 [2, 3, 4, 5, 17, 18, 19, 21] (by kernel_rfl) ?_
    rw [wi64 (x := i + 64) (by first | omega | (simp only [List.length_append, List.length_cons, List.length_nil, List.length_set, List.length_replicate, List.length_drop, List.length_take, iv_length, Nat.zero_add] at * <;> omega)) (by first | omega | (simp only [List.length_append, List.length_cons, List.length_nil, List.length_set, List.length_replicate, List.length_drop, List.length_take, iv_length, Nat.zero_add] at * <;> omega))]
    refine wc_sl (some 22) A6 ((padF b).length) c7 1 (some i) (some (i + 64)) none (slA A6 i.toNat c7 1) ((i + 64).toNat - i.toNat) (c7 - i.toNat) (by kernel_rfl) (by kernel_rfl) (by simp) (by first | decide | omega | (simp only [Option.getD_some, Option.getD_none]; first | decide | omega | (simp only [List.length_append, List.length_cons, List.length_nil, List.length_drop, List.length_take] at * <;> omega))) (by first | decide | omega | (simp only [Option.getD_some, Option.getD_none]; first | decide | omega | (simp only [List.length_append, List.length_cons, List.length_nil, List.length_drop, List.length_take] at * <;> omega))) (by first | decide | omega | (simp only [Option.getD_some, Option.getD_none]; first | decide | omega | (simp only [List.length_append, List.length_cons, List.length_nil, List.length_drop, List.length_take] at * <;> omega))) (by first | decide | omega | (simp only [Option.getD_some, Option.getD_none]; first | decide | omega | (simp only [List.length_append, List.length_cons, List.length_nil, List.length_drop, List.length_take] at * <;> omega))) (by first | decide | omega | (simp only [Option.getD_some, Option.getD_none]; first | decide | omega | (simp only [List.length_append, List.length_cons, List.length_nil, List.length_drop, List.length_take] at * <;> omega))) (by first | decide | omega | (simp only [Option.getD_some, Option.getD_none]; first | decide | omega | (simp only [List.length_append, List.length_cons, List.length_nil, List.length_drop, List.length_take] at * <;> omega))) (by first | rfl | (congr 1 <;> first | omega | (simp only [List.length_append, List.length_cons, List.length_nil, List.length_set, List.length_replicate, List.length_drop, List.length_take, iv_length, Nat.zero_add] at * <;> omega))) ?_
    refine wc_call (some 23) (by kernel_rfl) (proctorref01_block w11 hv (((padF b).drop i.toNat).take ((i + 64).toNat - i.toNat)) (slA A6 i.toNat c7 1) (c7 - i.toNat) ((i + 64).toNat - i.toNat) hi.2.2.2.1 (Rd.part (Rd.sl H 0 rfl) i.toNat c7 ((i + 64).toNat - i.toNat) (by first | omega | (simp only [List.length_append, List.length_cons, List.length_nil, List.length_set, List.length_replicate, List.length_drop, List.length_take, iv_length, Nat.zero_add] at * <;> omega))) (get_of_mem (p := fun x => 0 ≤ x ∧ x < 256) (by omega) (fun x hx => padF_range hr x (List.mem_of_mem_drop (List.mem_of_mem_take hx)))) (by rw [List.length_take, List.length_drop]; omega) (by omega)) ?_
    rintro _ w12 ⟨rfl, H1, hf13⟩
    refine ⟨_, rfl, fun _ => H1.keep, ?_⟩
    replace H := H.call H1
    simp only [List.nil_append] at H
    refine wc_st (b := b3) (off := 0) (Tb := 90) (vs := (iv .u32 (cmpF hv (((padF b).drop i.toNat).take ((i + 64).toNat - i.toNat))))) (cs' := (iv .u32 (cmpF hv (((padF b).drop i.toNat).take ((i + 64).toNat - i.toNat))))) H 1 90 (.agg (iv .u32 (cmpF hv (((padF b).drop i.toNat).take ((i + 64).toNat - i.toNat)))).toArray) 8 (by kernel_rfl) rfl rfl (by exact (iv_length .u32 (cmpF hv (((padF b).drop i.toNat).take ((i + 64).toNat - i.toNat)))).trans hf13) (by first | (simp only [iv_length, List.length_set, List.length_replicate, *]; done) | (simp [iv_length, *]; done) | (simp [Value.cells, iv_length, *]; done) | omega | (simp [Value.cells, iv_length] <;> omega)) (by exact iv_flat _ _) (by first | rfl | exact blit_all _ _ (by first | (simp only [iv_length, List.length_set, List.length_replicate, *]; done) | (simp [iv_length, *]; done) | (simp [Value.cells, iv_length, *]; done) | omega | (simp [Value.cells, iv_length] <;> omega)) | (simp [blit, List.drop_append, List.take_append, iv_length, *]; done)) (fun w14 H => ?_)
    dsimp only [List.set] at H
    refine wc_nil rfl ?_
    refine n_np ?_
    refine n_blk ?_
    refine n_sq ?_
    refine wn_reg 3 (by kernel_rfl) ?_
    refine wc_run (T' := [(2, .pointer (some ⟨b1, 0, none⟩)), (3, .pointer (some ⟨b3, 0, none⟩)), (4, .slice A6 ((padF b).length) c7), (16, .int .i64 (IntKind.i64.wrap (i + 64)))]) (L2 := (rng 2 1)) 2 [2, 3, 4, 16] (by kernel_rfl) ?_
    rw [wi64 (x := i + 64) (by first | omega | (simp only [List.length_append, List.length_cons, List.length_nil, List.length_set, List.length_replicate, List.length_drop, List.length_take, iv_length, Nat.zero_add] at * <;> omega)) (by first | omega | (simp only [List.length_append, List.length_cons, List.length_nil, List.length_set, List.length_replicate, List.length_drop, List.length_take, iv_length, Nat.zero_add] at * <;> omega))]
    refine wc_run (T' := [(2, .pointer (some ⟨b1, 0, none⟩)), (3, .pointer (some ⟨b3, 0, none⟩)), (4, .slice A6 ((padF b).length) c7), (5, .int .i64 (i + 64))]) (L2 := (rng 3 0)) 1 [2, 3, 4, 5] (by kernel_rfl) ?_
    refine wc_nil rfl ?_
    refine round_end (i + 64, (cmpF hv (((padF b).drop i.toNat).take ((i + 64).toNat - i.toNat)))) [2, 3, 4, 5] (by kernel_rfl) ⟨H, ?_⟩ ?_
    · obtain ⟨h1, h2, h3, h4, h5⟩ := hi
      have e1 : (i + 64).toNat / 64 = i.toNat / 64 + 1 := by omega
      have e2 : (i + 64).toNat - i.toNat = 64 := by omega
      have e3 : 64 * (i.toNat / 64) = i.toNat := by omega
      refine ⟨by omega, by omega, by omega, by assumption, ?_⟩
      rw [e1, itN, hnS, ← h5, e2, e3]
    · first | omega | (dsimp only; omega)
  · have hc10 := of_decide_eq_false hc10
    refine wn_exit 0 (by kernel_rfl) ?_
    refine e_sq ?_
    refine e_then ?_
    refine e_blk ?_
    refine n_sq ?_
    refine wn_seq (by kernel_rfl) ?_
    refine wn_reg 1 (by kernel_rfl) ?_
    refine wc_new H (some 6) (row (iv .u8 (List.replicate 32 0)) 47) (fun r => .pointer (some ⟨r, 0, none⟩)) (by kernel_rfl) (fun b15 w16 H => ?_)
    refine wc_nil rfl ?_
    refine n_sq ?_
    refine wn_seq (by kernel_rfl) ?_
    refine wn_seq (by kernel_rfl) ?_
    refine wn_reg 1 (by kernel_rfl) ?_
    refine wc_run (T' := [(2, .pointer (some ⟨b1, 0, none⟩)), (3, .pointer (some ⟨b3, 0, none⟩)), (6, .pointer (some ⟨b15, 0, none⟩)), (7, .int .i64 0)]) (L2 := (rng 1 0)) 1 [2, 3, 6, 7] (by kernel_rfl) ?_
    refine wc_nil rfl ?_
    refine n_sq ?_
    refine wn_block 2 (by kernel_rfl) ?_
    obtain ⟨hs1, hs2, hs3, hs4, hs5⟩ := hi
    have hs6 : (padF b).length / 64 = i.toNat / 64 := by omega
    refine wn_loop (fun ((k, q) : Int × List Int) => [(2, .pointer (some ⟨b1, 0, none⟩)), (3, .pointer (some ⟨b3, 0, none⟩)), (6, .pointer (some ⟨b15, 0, none⟩)), (7, .int .i64 k)]) (fun ((k, q) : Int × List Int) w' => Hp no w w' [.bk b15 (row (iv .u8 q) 47), .sl A6 ((padF b).length) c7 (iv .u8 (padF b)) 5 1, .bk b3 (row (iv .u32 hv) 90), .bk b1 (row (iv .u8 (List.replicate 32 0)) 47)] ∧ 0 ≤ k ∧ k ≤ 32 ∧ q.length = 32 ∧ q = itN (ouS hv) k.toNat (List.replicate 32 0)) (fun ((k, q) : Int × List Int) => (32 - k).toNat) ((0 : Int), (List.replicate 32 0)) [2, 3, 6, 7] (by kernel_rfl) rfl ⟨H, by simp [itN]⟩ ?_
    rintro ⟨k, q⟩ w17 ⟨H, hi⟩
    try dsimp only at H hi
    refine wn_pick (T' := [(2, .pointer (some ⟨b1, 0, none⟩)), (3, .pointer (some ⟨b3, 0, none⟩)), (6, .pointer (some ⟨b15, 0, none⟩)), (7, .int .i64 k)]) [2, 3, 6, 7] (by kernel_rfl) ?_
    refine wn_seq (by kernel_rfl) ?_
    refine wn_seq (by kernel_rfl) ?_
    refine wn_reg 2 (by kernel_rfl) ?_
    refine wc_run (T' := [(2, .pointer (some ⟨b1, 0, none⟩)), (3, .pointer (some ⟨b3, 0, none⟩)), (6, .pointer (some ⟨b15, 0, none⟩)), (7, .int .i64 k), (25, .bool (decide (k < (32 : Int))))]) (L2 := (rng 2 0)) 2 [2, 3, 6, 7, 25] (by kernel_rfl) ?_
    refine wc_nil rfl ?_
    refine n_sq ?_
    refine wn_cond (.tmp 25) (decide (k < (32 : Int))) (by kernel_rfl) rfl (fun hc18 => ?_) (fun hc18 => ?_)
    · have hc18 := of_decide_eq_true hc18
      refine wn_skip (by kernel_rfl) ?_
      refine n_sq ?_
      refine wn_seq (by kernel_rfl) ?_
      refine wn_block 3 (by kernel_rfl) ?_
      refine wn_reg 14 (by kernel_rfl) ?_
      refine wc_run (T' := [(2, .pointer (some ⟨b1, 0, none⟩)), (3, .pointer (some ⟨b3, 0, none⟩)), (6, .pointer (some ⟨b15, 0, none⟩)), (7, .int .i64 k), (28, .int .i64 k), (30, .int .i64 (IntKind.i64.wrap (k.tdiv 4)))]) (L2 := (rng 3 11)) 3 [2, 3, 6, 7, 28, 30] (by kernel_rfl) ?_
      rw [Int.tdiv_eq_ediv_of_nonneg (a := k) (b := 4) (by first | omega | (simp only [List.length_append, List.length_cons, List.length_nil, List.length_set, List.length_replicate, List.length_drop, List.length_take, iv_length, Nat.zero_add] at * <;> omega))]
      rw [wi64 (x := k / 4) (by first | omega | (simp only [List.length_append, List.length_cons, List.length_nil, List.length_set, List.length_replicate, List.length_drop, List.length_take, iv_length, Nat.zero_add] at * <;> omega)) (by first | omega | (simp only [List.length_append, List.length_cons, List.length_nil, List.length_set, List.length_replicate, List.length_drop, List.length_take, iv_length, Nat.zero_add] at * <;> omega))]
      refine wc_ix (b := b3) (off := 0) (o' := (k / 4).toNat) (some 31) (some ⟨b3, 0, none⟩) 8 1 (k / 4) (by kernel_rfl) rfl (by omega) (by omega) (by omega) ?_
      refine wc_ld (b := b3) (off := (k / 4).toNat) (some 32) 87 (.int .u32 (hv.getD ((k / 4).toNat) 0)) (by kernel_rfl) (Ld.ent1 H 2 rfl (by kernel_rfl) (iv_get (by first | (simp only [iv_length, List.length_set, List.length_replicate, *]; done) | (simp [iv_length, *]; done) | (simp [Value.cells, iv_length, *]; done) | omega | (simp [Value.cells, iv_length] <;> omega)))) ?_
      refine wc_run (T' := [(2, .pointer (some ⟨b1, 0, none⟩)), (3, .pointer (some ⟨b3, 0, none⟩)), (6, .pointer (some ⟨b15, 0, none⟩)), (7, .int .i64 k), (28, .int .i64 k), (32, .int .u32 (hv.getD ((k / 4).toNat) 0)), (34, .int .i64 (k.tmod 4))]) (L2 := (rng 7 7)) 2 [2, 3, 6, 7, 28, 32, 34] (by kernel_rfl) ?_
      rw [Int.tmod_eq_emod_of_nonneg (a := k) (b := 4) (by first | omega | (simp only [List.length_append, List.length_cons, List.length_nil, List.length_set, List.length_replicate, List.length_drop, List.length_take, iv_length, Nat.zero_add] at * <;> omega))]
      refine wc_run (T' := [(2, .pointer (some ⟨b1, 0, none⟩)), (3, .pointer (some ⟨b3, 0, none⟩)), (6, .pointer (some ⟨b15, 0, none⟩)), (7, .int .i64 k), (28, .int .i64 k), (32, .int .u32 (hv.getD ((k / 4).toNat) 0)), (35, .int .i64 (IntKind.i64.wrap (8 * (k % 4))))]) (L2 := (rng 8 6)) 1 [2, 3, 6, 7, 28, 32, 35] (by kernel_rfl) ?_
      rw [wi64 (x := 8 * (k % 4)) (by first | omega | (simp only [List.length_append, List.length_cons, List.length_nil, List.length_set, List.length_replicate, List.length_drop, List.length_take, iv_length, Nat.zero_add] at * <;> omega)) (by first | omega | (simp only [List.length_append, List.length_cons, List.length_nil, List.length_set, List.length_replicate, List.length_drop, List.length_take, iv_length, Nat.zero_add] at * <;> omega))]
      refine wc_run (T' := [(2, .pointer (some ⟨b1, 0, none⟩)), (3, .pointer (some ⟨b3, 0, none⟩)), (6, .pointer (some ⟨b15, 0, none⟩)), (7, .int .i64 k), (28, .int .i64 k), (32, .int .u32 (hv.getD ((k / 4).toNat) 0)), (36, .int .i64 (IntKind.i64.wrap (24 - (8 * (k % 4)))))]) (L2 := (rng 9 5)) 1 [2, 3, 6, 7, 28, 32, 36] (by kernel_rfl) ?_
      rw [wi64 (x := 24 - (8 * (k % 4))) (by first | omega | (simp only [List.length_append, List.length_cons, List.length_nil, List.length_set, List.length_replicate, List.length_drop, List.length_take, iv_length, Nat.zero_add] at * <;> omega)) (by first | omega | (simp only [List.length_append, List.length_cons, List.length_nil, List.length_set, List.length_replicate, List.length_drop, List.length_take, iv_length, Nat.zero_add] at * <;> omega))]
      refine wc_run (T' := [(2, .pointer (some ⟨b1, 0, none⟩)), (3, .pointer (some ⟨b3, 0, none⟩)), (6, .pointer (some ⟨b15, 0, none⟩)), (7, .int .i64 k), (28, .int .i64 k), (32, .int .u32 (hv.getD ((k / 4).toNat) 0)), (37, .int .u64 (IntKind.u64.wrap (24 - (8 * (k % 4)))))]) (L2 := (rng 10 4)) 1 [2, 3, 6, 7, 28, 32, 37] (by kernel_rfl) ?_
      rw [wu64 (x := 24 - (8 * (k % 4))) (by first | omega | (simp only [List.length_append, List.length_cons, List.length_nil, List.length_set, List.length_replicate, List.length_drop, List.length_take, iv_length, Nat.zero_add] at * <;> omega)) (by first | omega | (simp only [List.length_append, List.length_cons, List.length_nil, List.length_set, List.length_replicate, List.length_drop, List.length_take, iv_length, Nat.zero_add] at * <;> omega))]
      refine wc_shr (some 38) .u32 (hv.getD ((k / 4).toNat) 0) (24 - (8 * (k % 4))) (by kernel_rfl) (by kernel_rfl) (by omega) ?_
      refine wc_run (T' := [(2, .pointer (some ⟨b1, 0, none⟩)), (3, .pointer (some ⟨b3, 0, none⟩)), (6, .pointer (some ⟨b15, 0, none⟩)), (7, .int .i64 k), (28, .int .i64 k), (39, .int .u8 (IntKind.u8.wrap (shrV .u32 (hv.getD ((k / 4).toNat) 0) (24 - (8 * (k % 4))))))]) (L2 := (rng 12 2)) 1 [2, 3, 6, 7, 28, 39] (by kernel_rfl) ?_
      refine wc_ix (b := b15) (off := 0) (o' := k.toNat) (some 40) (some ⟨b15, 0, none⟩) 32 1 k (by kernel_rfl) rfl (by omega) (by omega) (by omega) ?_
      refine wc_st (b := b15) (off := k.toNat) (Tb := 47) (vs := ([.int .u8 (IntKind.u8.wrap (shrV .u32 (hv.getD ((k / 4).toNat) 0) (24 - (8 * (k % 4)))))])) (cs' := (iv .u8 (q.set k.toNat (IntKind.u8.wrap (shrV .u32 (hv.getD ((k / 4).toNat) 0) (24 - (8 * (k % 4)))))))) H 0 5 (.int .u8 (IntKind.u8.wrap (shrV .u32 (hv.getD ((k / 4).toNat) 0) (24 - (8 * (k % 4)))))) 1 (by kernel_rfl) rfl rfl (by rfl) (by first | (simp only [iv_length, List.length_set, List.length_replicate, *]; done) | (simp [iv_length, *]; done) | (simp [Value.cells, iv_length, *]; done) | omega | (simp [Value.cells, iv_length] <;> omega)) (by simp [Value.oneCell']) (by exact iv_set _ _ _ _ (by first | (simp only [iv_length, List.length_set, List.length_replicate, *]; done) | (simp [iv_length, *]; done) | (simp [Value.cells, iv_length, *]; done) | omega | (simp [Value.cells, iv_length] <;> omega))) (fun w19 H => ?_)
      dsimp only [List.set] at H
      refine wc_nil rfl ?_
      refine n_blk ?_
      refine n_sq ?_
      refine wn_reg 3 (by kernel_rfl) ?_
      refine wc_run (T' := [(2, .pointer (some ⟨b1, 0, none⟩)), (3, .pointer (some ⟨b3, 0, none⟩)), (6, .pointer (some ⟨b15, 0, none⟩)), (27, .int .i64 (IntKind.i64.wrap (k + 1)))]) (L2 := (rng 2 1)) 2 [2, 3, 6, 27] (by kernel_rfl) ?_
      rw [wi64 (x := k + 1) (by first | omega | (simp only [List.length_append, List.length_cons, List.length_nil, List.length_set, List.length_replicate, List.length_drop, List.length_take, iv_length, Nat.zero_add] at * <;> omega)) (by first | omega | (simp only [List.length_append, List.length_cons, List.length_nil, List.length_set, List.length_replicate, List.length_drop, List.length_take, iv_length, Nat.zero_add] at * <;> omega))]
      refine wc_run (T' := [(2, .pointer (some ⟨b1, 0, none⟩)), (3, .pointer (some ⟨b3, 0, none⟩)), (6, .pointer (some ⟨b15, 0, none⟩)), (7, .int .i64 (k + 1))]) (L2 := (rng 3 0)) 1 [2, 3, 6, 7] (by kernel_rfl) ?_
      refine wc_nil rfl ?_
      refine round_end (k + 1, q.set k.toNat (IntKind.u8.wrap (shrV .u32 (hv.getD ((k / 4).toNat) 0) (24 - (8 * (k % 4)))))) [2, 3, 6, 7] (by kernel_rfl) ⟨H, ?_⟩ ?_
      · obtain ⟨h1, h2, h3, h4⟩ := hi
        have e1 : (k + 1).toNat = k.toNat + 1 := by omega
        have e2 : (k / 4).toNat = k.toNat / 4 := by omega
        have e3 : ((k.toNat % 4 : Nat) : Int) = k % 4 := by omega
        refine ⟨by omega, by omega, by simp [h3], ?_⟩
        rw [e1, itN, ouS, byt32, e2, e3, ← h4]
      · first | omega | (dsimp only; omega)
    · have hc18 := of_decide_eq_false hc18
      refine wn_exit 2 (by kernel_rfl) ?_
      refine e_sq ?_
      refine e_then ?_
      refine e_blk ?_
      refine n_sq ?_
      refine wn_seq (by kernel_rfl) ?_
      refine wn_reg 2 (by kernel_rfl) ?_
      refine wc_ld (b := b15) (off := 0) (some 41) 47 (.agg (iv .u8 q).toArray) (by kernel_rfl) (Ld.entW H 0 (n := 32) rfl (by kernel_rfl) (by first | (simp only [iv_length, List.length_set, List.length_replicate, *]; done) | (simp [iv_length, *]; done) | (simp [Value.cells, iv_length, *]; done) | omega | (simp [Value.cells, iv_length] <;> omega))) ?_
      refine wc_st (b := b1) (off := 0) (Tb := 47) (vs := (iv .u8 q)) (cs' := (iv .u8 q)) H 3 47 (.agg (iv .u8 q).toArray) 32 (by kernel_rfl) rfl rfl (by first | (simp only [iv_length, List.length_set, List.length_replicate, *]; done) | (simp [iv_length, *]; done) | (simp [Value.cells, iv_length, *]; done) | omega | (simp [Value.cells, iv_length] <;> omega)) (by have h := (iv_length .u8 (List.replicate 32 0)).trans List.length_replicate; omega) (by exact iv_flat _ _) (by first | rfl | exact blit_all _ _ (by first | (simp only [iv_length, List.length_set, List.length_replicate, *]; done) | (simp [iv_length, *]; done) | (simp [Value.cells, iv_length, *]; done) | omega | (simp [Value.cells, iv_length] <;> omega)) | (simp [blit, List.drop_append, List.take_append, iv_length, *]; done)) (fun w20 H => ?_)
      dsimp only [List.set] at H
      refine wc_nil rfl ?_
      refine n_sq ?_
      refine wn_ret (by kernel_rfl) ?_
      refine ret1 _ (Or.inr rfl) Try.results33 ⟨_, _, rfl, Ld.entW H 3 (n := 32) rfl (by kernel_rfl) (by first | (simp only [iv_length, List.length_set, List.length_replicate, *]; done) | (simp [iv_length, *]; done) | (simp [Value.cells, iv_length, *]; done) | omega | (simp [Value.cells, iv_length] <;> omega))⟩ ?_
      have he21 : (shaF b) = q := by
        obtain ⟨h1, h2, h3, h4⟩ := hi
        have e : k.toNat = 32 := by omega
        rw [h4, e, shaF, hN, hs6, hs5]
      exact ⟨by first | (rw [he21]; done) | (rw [he21]; rfl), H.nil, by exact shaF_length b⟩

noncomputable def cd_sha_Rounds : Code := (Try.f38.body).getD .skip
theorem sha_Rounds (w : World) (b : List Int) (B : Option Addr) (d : Nat) (hn : b.length ≤ 140737488355000) :
    Calls Try.prog 38 #[.slice B b.length d] w (fun e w' => e = .returned (.int .i64 (((padF b).length / 64 : Nat) : Int)) ∧ Hp no w w' []) := by
  refine enter (args := [_]) (c := cd_sha_Rounds) (N := 9) Try.func38 (by kernel_rfl) (by kernel_rfl) (by simp) ?_
  have H := Hp.start w
  refine wn_seq (by kernel_rfl) ?_
  refine wn_reg 1 (by kernel_rfl) ?_
  refine wc_run (T' := [(0, .slice B b.length d)]) (L2 := (rng 1 0)) 1 [0] (by kernel_rfl) ?_
  refine wc_nil rfl ?_
  refine n_sq ?_
  refine wn_seq (by kernel_rfl) ?_
  refine wn_reg 7 (by kernel_rfl) ?_
  refine wc_run (T' := [(5, .int .i64 (IntKind.i64.wrap ((↑b.length : Int) + 9)))]) (L2 := (rng 3 4)) 3 [5] (by kernel_rfl) ?_
  rw [wi64 (x := (↑b.length : Int) + 9) (by first | omega | (simp only [List.length_append, List.length_cons, List.length_nil, List.length_set, List.length_replicate, List.length_drop, List.length_take, iv_length, Nat.zero_add] at * <;> omega)) (by first | omega | (simp only [List.length_append, List.length_cons, List.length_nil, List.length_set, List.length_replicate, List.length_drop, List.length_take, iv_length, Nat.zero_add] at * <;> omega))]
  refine wc_run (T' := [(6, .int .i64 (IntKind.i64.wrap (((↑b.length : Int) + 9) + 64)))]) (L2 := (rng 4 3)) 1 [6] (by kernel_rfl) ?_
  rw [wi64 (x := ((↑b.length : Int) + 9) + 64) (by first | omega | (simp only [List.length_append, List.length_cons, List.length_nil, List.length_set, List.length_replicate, List.length_drop, List.length_take, iv_length, Nat.zero_add] at * <;> omega)) (by first | omega | (simp only [List.length_append, List.length_cons, List.length_nil, List.length_set, List.length_replicate, List.length_drop, List.length_take, iv_length, Nat.zero_add] at * <;> omega))]
  refine wc_run (T' := [(7, .int .i64 (IntKind.i64.wrap ((((↑b.length : Int) + 9) + 64) - 1)))]) (L2 := (rng 5 2)) 1 [7] (by kernel_rfl) ?_
  rw [wi64 (x := (((↑b.length : Int) + 9) + 64) - 1) (by first | omega | (simp only [List.length_append, List.length_cons, List.length_nil, List.length_set, List.length_replicate, List.length_drop, List.length_take, iv_length, Nat.zero_add] at * <;> omega)) (by first | omega | (simp only [List.length_append, List.length_cons, List.length_nil, List.length_set, List.length_replicate, List.length_drop, List.length_take, iv_length, Nat.zero_add] at * <;> omega))]
  refine wc_run (T' := [(8, .int .i64 (IntKind.i64.wrap (((((↑b.length : Int) + 9) + 64) - 1).tdiv 64)))]) (L2 := (rng 6 1)) 1 [8] (by kernel_rfl) ?_
  rw [Int.tdiv_eq_ediv_of_nonneg (a := ((((↑b.length : Int) + 9) + 64) - 1)) (b := 64) (by first | omega | (simp only [List.length_append, List.length_cons, List.length_nil, List.length_set, List.length_replicate, List.length_drop, List.length_take, iv_length, Nat.zero_add] at * <;> omega))]
  rw [wi64 (x := ((((↑b.length : Int) + 9) + 64) - 1) / 64) (by first | omega | (simp only [List.length_append, List.length_cons, List.length_nil, List.length_set, List.length_replicate, List.length_drop, List.length_take, iv_length, Nat.zero_add] at * <;> omega)) (by first | omega | (simp only [List.length_append, List.length_cons, List.length_nil, List.length_set, List.length_replicate, List.length_drop, List.length_take, iv_length, Nat.zero_add] at * <;> omega))]
  refine wc_run (T' := [(2, .int .i64 (((((↑b.length : Int) + 9) + 64) - 1) / 64))]) (L2 := (rng 7 0)) 1 [2] (by kernel_rfl) ?_
  refine wc_nil rfl ?_
  refine n_sq ?_
  refine wn_ret (by kernel_rfl) ?_
  refine ret1 _ (Or.inr rfl) Try.results38 rfl ?_
  have he1 : (((padF b).length / 64 : Nat) : Int) = ((((↑b.length : Int) + 9) + 64) - 1) / 64 := by
    rw [padF_length]; unfold padZ; omega
  exact ⟨by first | (rw [he1]; done) | (rw [he1]; rfl), H.nil⟩

noncomputable def cd_proctorref01_Rounds : Code := (Try.f39.body).getD .skip
theorem proctorref01_Rounds (w : World) (b : List Int) (B : Option Addr) (d : Nat) (hb : Rd w B (iv .u8 b)) (hn : b.length ≤ 140737488355000) :
    Calls Try.prog 39 #[.slice B b.length d] w (fun e w' => e = .returned (.int .i64 (((padF b).length / 64 : Nat) : Int)) ∧ Hp no w w' []) := by
  have hple := padF_le b
  refine enter (args := [_]) (c := cd_proctorref01_Rounds) (N := 7) Try.func39 (by kernel_rfl) (by kernel_rfl) (by simp) ?_
  have H := Hp.start w
  refine wn_seq (by kernel_rfl) ?_
  refine wn_reg 1 (by kernel_rfl) ?_
  refine wc_run (T' := [(0, .slice B b.length d)]) (L2 := (rng 1 0)) 1 [0] (by kernel_rfl) ?_
  refine wc_nil rfl ?_
  refine n_sq ?_
  refine wn_seq (by kernel_rfl) ?_
  refine wn_reg 5 (by kernel_rfl) ?_
  refine wc_run (T' := [(3, .slice B b.length d)]) (L2 := (rng 1 4)) 1 [3] (by kernel_rfl) ?_
  refine wc_call (some 4) (by kernel_rfl) (proctorref01_padded w b B d (hb.keep H.keep) hn) ?_
  rintro _ w3 ⟨A1, c2, rfl, H1⟩
  refine ⟨_, rfl, fun _ => H1.keep, ?_⟩
  replace H := H.call H1
  simp only [List.nil_append, List.cons_append] at H
  refine wc_run (T' := [(6, .int .i64 (IntKind.i64.wrap ((↑((padF b).length) : Int).tdiv 64)))]) (L2 := (rng 4 1)) 2 [6] (by kernel_rfl) ?_
  rw [Int.tdiv_eq_ediv_of_nonneg (a := (↑((padF b).length) : Int)) (b := 64) (by first | omega | (simp only [List.length_append, List.length_cons, List.length_nil, List.length_set, List.length_replicate, List.length_drop, List.length_take, iv_length, Nat.zero_add] at * <;> omega))]
  rw [wi64 (x := (↑((padF b).length) : Int) / 64) (by first | omega | (simp only [List.length_append, List.length_cons, List.length_nil, List.length_set, List.length_replicate, List.length_drop, List.length_take, iv_length, Nat.zero_add] at * <;> omega)) (by first | omega | (simp only [List.length_append, List.length_cons, List.length_nil, List.length_set, List.length_replicate, List.length_drop, List.length_take, iv_length, Nat.zero_add] at * <;> omega))]
  refine wc_run (T' := [(2, .int .i64 ((↑((padF b).length) : Int) / 64))]) (L2 := (rng 5 0)) 1 [2] (by kernel_rfl) ?_
  refine wc_nil rfl ?_
  refine n_sq ?_
  refine wn_ret (by kernel_rfl) ?_
  refine ret1 _ (Or.inr rfl) Try.results39 rfl ?_
  have he4 : (((padF b).length / 64 : Nat) : Int) = (↑((padF b).length) : Int) / 64 := by
    omega
  exact ⟨by first | (rw [he4]; done) | (rw [he4]; rfl), H.nil⟩

noncomputable def cd_proctorref01_Leaf : Code := (Try.f35.body).getD .skip
theorem proctorref01_Leaf (w : World) (b : List Int) (B : Option Addr) (d : Nat) (hb : Rd w B (iv .u8 b)) (hn : b.length ≤ 140737488354000) (hr : ∀ j, 0 ≤ b.getD j 0 ∧ b.getD j 0 < 256) :
    Calls Try.prog 35 #[.slice B b.length d] w (fun e w' => e = .returned (.agg (iv .u8 (shaF ([(0 : Int)] ++ b))).toArray) ∧ Hp no w w' [] ∧ (shaF ([(0 : Int)] ++ b)).length = 32) := by
  refine enter (args := [_]) (c := cd_proctorref01_Leaf) (N := 7) Try.func35 (by kernel_rfl) (by kernel_rfl) (by simp) ?_
  have H := Hp.start w
  refine wn_seq (by kernel_rfl) ?_
  refine wn_reg 1 (by kernel_rfl) ?_
  refine wc_new H (some 2) (row (iv .u8 (List.replicate 32 0)) 47) (fun r => .pointer (some ⟨r, 0, none⟩)) (by kernel_rfl) (fun b1 w2 H => ?_)
  refine wc_nil rfl ?_
  refine n_sq ?_
  refine wn_seq (by kernel_rfl) ?_
  refine wn_reg 5 (by kernel_rfl) ?_
  refine wc_new H (some 3) (row ([.int .u8 0]) 5) (fun r => .slice (some ⟨r, 0, none⟩) 1 1) (by kernel_rfl) (fun b3 w4 H => ?_)
  refine wc_run (T' := [(2, .pointer (some ⟨b1, 0, none⟩)), (3, .slice (some ⟨b3, 0, none⟩) 1 1), (4, .slice B b.length d)]) (L2 := (rng 2 3)) 1 [2, 3, 4] (by kernel_rfl) ?_
  replace H := H.toSl 0 1 1 (cs := (iv .u8 ([0]))) (e := 5) rfl (by rfl) (by decide)
  dsimp only [List.set] at H
  refine wc_appN H 0 (some 5) (A := (some ⟨b3, 0, none⟩)) (n := 1) (c := 1) (B := B) (mm := b.length) (cc := d) (t := 50) (e := 5) 1 1 (xs := (iv .u8 ([0]))) (ys := (iv .u8 b)) (zs := (iv .u8 (([0]) ++ b))) ((([0]) ++ b).length) (by kernel_rfl) rfl (hb.keep H.keep) (by simp [iv]; try first | omega | (simp only [List.length_append, List.length_cons, List.length_nil, List.length_set, List.length_replicate, List.length_drop, List.length_take, iv_length, Nat.zero_add] at * <;> omega)) (by first | exact iv_flat _ _ | simp [Value.oneCell']) (by first | omega | (simp only [List.length_append, List.length_cons, List.length_nil, List.length_set, List.length_replicate, List.length_drop, List.length_take, iv_length, Nat.zero_add] at * <;> omega)) (by simp [iv]) (by first | omega | (simp only [List.length_append, List.length_cons, List.length_nil, List.length_set, List.length_replicate, List.length_drop, List.length_take, iv_length, Nat.zero_add] at * <;> omega)) (fun A5 c6 w7 H => ?_)
  dsimp only [List.set] at H
  refine wc_call (some 6) (by kernel_rfl) (proctorref01_Sum w7 (([0]) ++ b) A5 c6 (Rd.sl H 0 rfl) (by simp only [List.length_append, List.length_cons, List.length_nil]; omega) (get_of_mem (p := fun x => 0 ≤ x ∧ x < 256) (by omega) (fun x hx => by rcases List.mem_append.1 hx with h | h; (· simp at h; omega); (· exact mem_of_get (p := fun x => 0 ≤ x ∧ x < 256) hr x h)))) ?_
  rintro _ w8 ⟨rfl, H1, hf9⟩
  refine ⟨_, rfl, fun _ => H1.keep, ?_⟩
  replace H := H.call H1
  simp only [List.nil_append] at H
  refine wc_st (b := b1) (off := 0) (Tb := 47) (vs := (iv .u8 (shaF (([0]) ++ b)))) (cs' := (iv .u8 (shaF (([0]) ++ b)))) H 1 47 (.agg (iv .u8 (shaF (([0]) ++ b))).toArray) 32 (by kernel_rfl) rfl rfl (by exact (iv_length .u8 (shaF (([0]) ++ b))).trans hf9) (by have h := (iv_length .u8 (List.replicate 32 0)).trans List.length_replicate; omega) (by exact iv_flat _ _) (by exact blit_all _ _ ((show (iv .u8 (shaF (([0]) ++ b)) : List Value).length = 32 from (iv_length .u8 (shaF (([0]) ++ b))).trans hf9).trans (show (iv .u8 (List.replicate 32 0) : List Value).length = 32 from (iv_length .u8 (List.replicate 32 0)).trans List.length_replicate).symm)) (fun w10 H => ?_)
  dsimp only [List.set] at H
  refine wc_nil rfl ?_
  refine n_sq ?_
  refine wn_ret (by kernel_rfl) ?_
  refine ret1 _ (Or.inr rfl) Try.results35 ⟨_, _, rfl, Ld.entW H 1 (n := 32) rfl (by kernel_rfl) (by exact (iv_length .u8 (shaF (([0]) ++ b))).trans hf9)⟩ ?_
  have he11 : (shaF ([(0 : Int)] ++ b)) = (shaF (([0]) ++ b)) := by
    simp_all
  exact ⟨by first | (rw [he11]; done) | (rw [he11]; rfl), H.nil, by exact shaF_length _⟩

noncomputable def cd_proctorref01_Pair : Code := (Try.f37.body).getD .skip
theorem proctorref01_Pair (w : World) (x : List Int) (y : List Int) (hx : x.length = 32) (hy : y.length = 32) (hxb : ∀ j, 0 ≤ x.getD j 0 ∧ x.getD j 0 < 256) (hyb : ∀ j, 0 ≤ y.getD j 0 ∧ y.getD j 0 < 256) :
    Calls Try.prog 37 #[.agg (iv .u8 x).toArray, .agg (iv .u8 y).toArray] w (fun e w' => e = .returned (.agg (iv .u8 (shaF (([(1 : Int)] ++ x) ++ y))).toArray) ∧ Hp no w w' [] ∧ (shaF (([(1 : Int)] ++ x) ++ y)).length = 32) := by
  refine enter (args := [_, _]) (c := cd_proctorref01_Pair) (N := 11) Try.func37 (by kernel_rfl) (by kernel_rfl) (by simp) ?_
  have H := Hp.start w
  refine wn_seq (by kernel_rfl) ?_
  refine wn_reg 3 (by kernel_rfl) ?_
  refine wc_new H (some 2) (row (iv .u8 x) 47) (fun r => .pointer (some ⟨r, 0, none⟩)) (by kernel_rfl) (fun b1 w2 H => ?_)
  refine wc_new H (some 3) (row (iv .u8 y) 47) (fun r => .pointer (some ⟨r, 0, none⟩)) (by kernel_rfl) (fun b3 w4 H => ?_)
  refine wc_new H (some 4) (row (iv .u8 (List.replicate 32 0)) 47) (fun r => .pointer (some ⟨r, 0, none⟩)) (by kernel_rfl) (fun b5 w6 H => ?_)
  refine wc_nil rfl ?_
  refine n_sq ?_
  refine wn_seq (by kernel_rfl) ?_
  refine wn_regD [] (ol [1, 3, 0, 2, 4, 5, 6]) (by kernel_rfl) H (fun w7 H => ?_)
  refine wc_sl (some 6) (some ⟨b1, 0, none⟩) 32 32 1 none none none (some ⟨b1, 0, none⟩) 32 32 (by kernel_rfl) (by kernel_rfl) (by simp) (by decide) (by decide) (by decide) (by decide) (by decide) (by decide) (by exact slA_zero _ _ _) ?_
  refine wc_sl (some 8) (some ⟨b3, 0, none⟩) 32 32 1 none none none (some ⟨b3, 0, none⟩) 32 32 (by kernel_rfl) (by kernel_rfl) (by simp) (by decide) (by decide) (by decide) (by decide) (by decide) (by decide) (by exact slA_zero _ _ _) ?_
  refine wc_new H (some 5) (row ([.int .u8 1]) 5) (fun r => .slice (some ⟨r, 0, none⟩) 1 1) (by kernel_rfl) (fun b8 w9 H => ?_)
  replace H := H.toSl 0 1 1 (cs := (iv .u8 ([1]))) (e := 5) rfl (by rfl) (by decide)
  dsimp only [List.set] at H
  refine wc_appN H 0 (some 7) (A := (some ⟨b8, 0, none⟩)) (n := 1) (c := 1) (B := (some ⟨b1, 0, none⟩)) (mm := 32) (cc := 32) (t := 50) (e := 5) 1 1 (xs := (iv .u8 ([1]))) (ys := (iv .u8 x)) (zs := (iv .u8 (([1]) ++ x))) ((([1]) ++ x).length) (by kernel_rfl) rfl (Rd.of_ent H (k := 3) (off := 0) (n := 32) rfl (by exact List.take_of_length_le (Nat.le_of_eq (by exact (iv_length .u8 x).trans hx)))) (by simp [iv]; try first | omega | (simp only [List.length_append, List.length_cons, List.length_nil, List.length_set, List.length_replicate, List.length_drop, List.length_take, iv_length, Nat.zero_add] at * <;> omega)) (by first | exact iv_flat _ _ | simp [Value.oneCell']) (by first | omega | (simp only [List.length_append, List.length_cons, List.length_nil, List.length_set, List.length_replicate, List.length_drop, List.length_take, iv_length, Nat.zero_add] at * <;> omega)) (by simp [iv]) (by first | omega | (simp only [List.length_append, List.length_cons, List.length_nil, List.length_set, List.length_replicate, List.length_drop, List.length_take, iv_length, Nat.zero_add] at * <;> omega)) (fun A10 c11 w12 H => ?_)
  dsimp only [List.set] at H
  refine wc_appN H 0 (some 9) (A := A10) (n := ((([1]) ++ x).length)) (c := c11) (B := (some ⟨b3, 0, none⟩)) (mm := 32) (cc := 32) (t := 50) (e := 5) 1 1 (xs := (iv .u8 (([1]) ++ x))) (ys := (iv .u8 y)) (zs := (iv .u8 ((([1]) ++ x) ++ y))) (((([1]) ++ x) ++ y).length) (by kernel_rfl) rfl (Rd.of_ent H (k := 2) (off := 0) (n := 32) rfl (by exact List.take_of_length_le (Nat.le_of_eq (by exact (iv_length .u8 y).trans hy)))) (by simp [iv]; try first | omega | (simp only [List.length_append, List.length_cons, List.length_nil, List.length_set, List.length_replicate, List.length_drop, List.length_take, iv_length, Nat.zero_add] at * <;> omega)) (by first | exact iv_flat _ _ | simp [Value.oneCell']) (by first | omega | (simp only [List.length_append, List.length_cons, List.length_nil, List.length_set, List.length_replicate, List.length_drop, List.length_take, iv_length, Nat.zero_add] at * <;> omega)) (by simp [iv]) (by first | omega | (simp only [List.length_append, List.length_cons, List.length_nil, List.length_set, List.length_replicate, List.length_drop, List.length_take, iv_length, Nat.zero_add] at * <;> omega)) (fun A13 c14 w15 H => ?_)
  dsimp only [List.set] at H
  refine wc_call (some 10) (by kernel_rfl) (proctorref01_Sum w15 ((([1]) ++ x) ++ y) A13 c14 (Rd.sl H 0 rfl) (by simp only [List.length_append, List.length_cons, List.length_nil]; omega) (get_of_mem (p := fun x => 0 ≤ x ∧ x < 256) (by omega) (fun z hz => by rcases List.mem_append.1 hz with h | h; (· rcases List.mem_append.1 h with h | h; (· simp at h; omega); (· exact mem_of_get (p := fun x => 0 ≤ x ∧ x < 256) hxb z h)); (· exact mem_of_get (p := fun x => 0 ≤ x ∧ x < 256) hyb z h)))) ?_
  rintro _ w16 ⟨rfl, H1, hf17⟩
  refine ⟨_, rfl, fun _ => H1.keep, ?_⟩
  replace H := H.call H1
  simp only [List.nil_append] at H
  refine wc_st (b := b5) (off := 0) (Tb := 47) (vs := (iv .u8 (shaF ((([1]) ++ x) ++ y)))) (cs' := (iv .u8 (shaF ((([1]) ++ x) ++ y)))) H 1 47 (.agg (iv .u8 (shaF ((([1]) ++ x) ++ y))).toArray) 32 (by kernel_rfl) rfl rfl (by exact (iv_length .u8 (shaF ((([1]) ++ x) ++ y))).trans hf17) (by have h := (iv_length .u8 (List.replicate 32 0)).trans List.length_replicate; omega) (by exact iv_flat _ _) (by exact blit_all _ _ ((show (iv .u8 (shaF ((([1]) ++ x) ++ y)) : List Value).length = 32 from (iv_length .u8 (shaF ((([1]) ++ x) ++ y))).trans hf17).trans (show (iv .u8 (List.replicate 32 0) : List Value).length = 32 from (iv_length .u8 (List.replicate 32 0)).trans List.length_replicate).symm)) (fun w18 H => ?_)
  dsimp only [List.set] at H
  refine wc_nil rfl ?_
  refine n_np ?_
  refine n_sq ?_
  refine wn_ret (by kernel_rfl) ?_
  refine ret1 _ (Or.inr rfl) Try.results37 ⟨_, _, rfl, Ld.entW H 1 (n := 32) rfl (by kernel_rfl) (by exact (iv_length .u8 (shaF ((([1]) ++ x) ++ y))).trans hf17)⟩ ?_
  have he19 : (shaF (([(1 : Int)] ++ x) ++ y)) = (shaF ((([1]) ++ x) ++ y)) := by
    simp_all
  exact ⟨by first | (rw [he19]; done) | (rw [he19]; rfl), H.nil, by exact shaF_length _⟩
end Go.Proofs.Ytfeecdcanjkohaa
