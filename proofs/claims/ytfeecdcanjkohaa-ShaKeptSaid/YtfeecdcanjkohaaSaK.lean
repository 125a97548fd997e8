/-
  Walks of some of this seat's functions: each call's answer, and what it leaves of memory. No condition beside those that stand in each theorem.
-/
import Derived.Test.YtfeecdcanjkohaaRows
import Derived.Test.YtfeecdcanjkohaaSaB
set_option linter.all false
namespace Go.Proofs.Ytfeecdcanjkohaa
open Go.RowKit Go.Px

theorem seven {b : List Int} {i : Int} (h0 : (b.length : Int) ≤ i) (h1 : i < b.length + 12) : (b ++ [(7 : Int), 7, 7, 7, 7, 7, 7, 7, 7, 7, 7, 7]).getD i.toNat 0 = 7 := by
  rw [List.getD_eq_getElem?_getD, List.getElem?_append_right (by omega)]
  generalize hj : i.toNat - b.length = j
  have : j < 12 := by omega
  have : j = 0 ∨ j = 1 ∨ j = 2 ∨ j = 3 ∨ j = 4 ∨ j = 5 ∨ j = 6 ∨ j = 7 ∨ j = 8 ∨ j = 9 ∨ j = 10 ∨ j = 11 := by omega
  rcases this with rfl | rfl | rfl | rfl | rfl | rfl | rfl | rfl | rfl | rfl | rfl | rfl <;> rfl

noncomputable def cd_proctorlaw01_ShaKept : Code := (Try.f9.body).getD .skip
theorem proctorlaw01_ShaKept (w : World) (b : List Int) (B : Option Addr) (d : Nat) (hb : Rd w B (iv .u8 b)) (hn : b.length ≤ 140737488354000) (hr : ∀ x ∈ b, 0 ≤ x ∧ x < 256) :
    Calls Try.prog 9 #[.slice B b.length d] w (fun e w' => e = .returned (.bool true) ∧ Hp no w w' []) := by
  refine enter (args := [_]) (c := cd_proctorlaw01_ShaKept) (N := 51) Try.func9 (by kernel_rfl) (by kernel_rfl) (by simp) ?_
  have H := Hp.start w
  refine wn_seq (by kernel_rfl) ?_
  refine wn_reg 1 (by kernel_rfl) ?_
  refine wc_run (T' := [(0, .slice B b.length d)]) (L2 := (rng 1 0)) 1 [0] (by kernel_rfl) ?_
  refine wc_nil rfl ?_
  refine n_sq ?_
  refine wn_seq (by kernel_rfl) ?_
  refine wn_reg 5 (by kernel_rfl) ?_
  refine wc_run (T' := [(0, .slice B b.length d), (8, .slice B b.length d)]) (L2 := (rng 1 4)) 1 [0, 8] (by kernel_rfl) ?_
  refine wc_call (some 9) (by kernel_rfl) (proctorref01_Copy w b B d (hb.keep H.keep) (by omega)) ?_
  rintro _ w3 ⟨A1, c2, rfl, H1⟩
  refine ⟨_, rfl, fun _ => H1.keep, ?_⟩
  replace H := H.call H1
  simp only [List.nil_append, List.cons_append] at H
  refine wc_new H (some 10) (row ([.int .u8 7, .int .u8 7, .int .u8 7, .int .u8 7, .int .u8 7, .int .u8 7, .int .u8 7, .int .u8 7, .int .u8 7, .int .u8 7, .int .u8 7, .int .u8 7]) 5) (fun r => .slice (some ⟨r, 0, none⟩) 12 12) (by kernel_rfl) (fun b4 w5 H => ?_)
  refine wc_appN H 1 (some 11) (A := A1) (n := b.length) (c := c2) (B := (some ⟨b4, 0, none⟩)) (mm := 12) (cc := 12) (t := 50) (e := 5) 1 1 (xs := (iv .u8 b)) (ys := (iv .u8 ([(7 : Int), 7, 7, 7, 7, 7, 7, 7, 7, 7, 7, 7]))) (zs := (iv .u8 (b ++ [(7 : Int), 7, 7, 7, 7, 7, 7, 7, 7, 7, 7, 7]))) ((b ++ [(7 : Int), 7, 7, 7, 7, 7, 7, 7, 7, 7, 7, 7]).length) (by kernel_rfl) rfl (Rd.of_ent H (k := 0) (off := 0) (n := 12) rfl (by rfl)) (by simp [iv]; try first | omega | (simp only [List.length_append, List.length_cons, List.length_nil, List.length_set, List.length_replicate, List.length_drop, List.length_take, iv_length, Nat.zero_add] at * <;> omega)) (by first | exact iv_flat _ _ | simp [Value.oneCell']) (by first | omega | (simp only [List.length_append, List.length_cons, List.length_nil, List.length_set, List.length_replicate, List.length_drop, List.length_take, iv_length, Nat.zero_add] at * <;> omega)) (by simp [iv]) (by first | omega | (simp only [List.length_append, List.length_cons, List.length_nil, List.length_set, List.length_replicate, List.length_drop, List.length_take, iv_length, Nat.zero_add] at * <;> omega)) (fun A6 c7 w8 H => ?_)
  dsimp only [List.set] at H
  refine wc_run (T' := [(0, .slice B b.length d), (3, .slice A6 ((b ++ [(7 : Int), 7, 7, 7, 7, 7, 7, 7, 7, 7, 7, 7]).length) c7)]) (L2 := (rng 5 0)) 1 [0, 3] (by kernel_rfl) ?_
  refine wc_nil rfl ?_
  refine n_sq ?_
  refine wn_seq (by kernel_rfl) ?_
  refine wn_reg 5 (by kernel_rfl) ?_
  refine wc_run (T' := [(0, .slice B b.length d), (3, .slice A6 ((b ++ [(7 : Int), 7, 7, 7, 7, 7, 7, 7, 7, 7, 7, 7]).length) c7), (12, .slice A6 ((b ++ [(7 : Int), 7, 7, 7, 7, 7, 7, 7, 7, 7, 7, 7]).length) c7), (14, .int .i64 (↑b.length : Int))]) (L2 := (rng 3 2)) 3 [0, 3, 12, 14] (by kernel_rfl) ?_
  have hcap9 := (H.slLen 1 rfl).2.1
  refine wc_sl (some 15) A6 ((b ++ [(7 : Int), 7, 7, 7, 7, 7, 7, 7, 7, 7, 7, 7]).length) c7 1 none (some (↑b.length : Int)) none A6 b.length c7 (by kernel_rfl) (by kernel_rfl) (by simp) (by first | decide | omega | (simp only [Option.getD_some, Option.getD_none]; first | decide | omega | (simp only [List.length_append, List.length_cons, List.length_nil, List.length_drop, List.length_take] at * <;> omega))) (by first | decide | omega | (simp only [Option.getD_some, Option.getD_none]; first | decide | omega | (simp only [List.length_append, List.length_cons, List.length_nil, List.length_drop, List.length_take] at * <;> omega))) (by first | decide | omega | (simp only [Option.getD_some, Option.getD_none]; first | decide | omega | (simp only [List.length_append, List.length_cons, List.length_nil, List.length_drop, List.length_take] at * <;> omega))) (by first | decide | omega | (simp only [Option.getD_some, Option.getD_none]; first | decide | omega | (simp only [List.length_append, List.length_cons, List.length_nil, List.length_drop, List.length_take] at * <;> omega))) (by first | decide | omega | (simp only [Option.getD_some, Option.getD_none]; first | decide | omega | (simp only [List.length_append, List.length_cons, List.length_nil, List.length_drop, List.length_take] at * <;> omega))) (by first | decide | omega | (simp only [Option.getD_some, Option.getD_none]; first | decide | omega | (simp only [List.length_append, List.length_cons, List.length_nil, List.length_drop, List.length_take] at * <;> omega))) (by exact slA_zero _ _ _) ?_
  refine wc_run (T' := [(0, .slice B b.length d), (3, .slice A6 ((b ++ [(7 : Int), 7, 7, 7, 7, 7, 7, 7, 7, 7, 7, 7]).length) c7), (4, .slice A6 b.length c7)]) (L2 := (rng 5 0)) 1 [0, 3, 4] (by kernel_rfl) ?_
  refine wc_nil rfl ?_
  refine n_sq ?_
  refine wn_seq (by kernel_rfl) ?_
  refine wn_reg 8 (by kernel_rfl) ?_
  refine wc_run (T' := [(0, .slice B b.length d), (3, .slice A6 ((b ++ [(7 : Int), 7, 7, 7, 7, 7, 7, 7, 7, 7, 7, 7]).length) c7), (4, .slice A6 b.length c7), (16, .slice A6 b.length c7)]) (L2 := (rng 1 7)) 1 [0, 3, 4, 16] (by kernel_rfl) ?_
  refine wc_call (some 17) (by kernel_rfl) (sha_Sum w8 b A6 c7 (by have h := Rd.pre (Rd.sl H 1 rfl) b.length; rw [List.take_left] at h; exact h) (by omega)) ?_
  rintro _ w10 ⟨rfl, H1, hf11⟩
  refine ⟨_, rfl, fun _ => H1.keep, ?_⟩
  replace H := H.call H1
  simp only [List.nil_append] at H
  refine wc_run (T' := [(0, .slice B b.length d), (3, .slice A6 ((b ++ [(7 : Int), 7, 7, 7, 7, 7, 7, 7, 7, 7, 7, 7]).length) c7), (4, .slice A6 b.length c7), (17, .agg (iv .u8 (shaF b)).toArray), (18, .slice A6 b.length c7)]) (L2 := (rng 3 5)) 1 [0, 3, 4, 17, 18] (by kernel_rfl) ?_
  refine wc_call (some 19) (by kernel_rfl) (sha_Leaf w10 b A6 c7 (by have h := Rd.pre (Rd.sl H 1 rfl) b.length; rw [List.take_left] at h; exact h) (by omega)) ?_
  rintro _ w12 ⟨rfl, H1, hf13⟩
  refine ⟨_, rfl, fun _ => H1.keep, ?_⟩
  replace H := H.call H1
  simp only [List.nil_append] at H
  refine wc_new H (some 5) (row (iv .u8 (List.replicate 32 0)) 47) (fun r => .pointer (some ⟨r, 0, none⟩)) (by kernel_rfl) (fun b14 w15 H => ?_)
  refine wc_new H (some 6) (row (iv .u8 (List.replicate 32 0)) 47) (fun r => .pointer (some ⟨r, 0, none⟩)) (by kernel_rfl) (fun b16 w17 H => ?_)
  refine wc_st (b := b14) (off := 0) (Tb := 47) (vs := (iv .u8 (shaF b))) (cs' := (iv .u8 (shaF b))) H 1 47 (.agg (iv .u8 (shaF b)).toArray) 32 (by kernel_rfl) rfl rfl (by exact (iv_length .u8 (shaF b)).trans hf11) (by have h := (iv_length .u8 (List.replicate 32 0)).trans List.length_replicate; omega) (by exact iv_flat _ _) (by exact blit_all _ _ ((show (iv .u8 (shaF b) : List Value).length = 32 from (iv_length .u8 (shaF b)).trans hf11).trans (show (iv .u8 (List.replicate 32 0) : List Value).length = 32 from (iv_length .u8 (List.replicate 32 0)).trans List.length_replicate).symm)) (fun w18 H => ?_)
  dsimp only [List.set] at H
  refine wc_st (b := b16) (off := 0) (Tb := 47) (vs := (iv .u8 (shaF ([(0 : Int)] ++ b)))) (cs' := (iv .u8 (shaF ([(0 : Int)] ++ b)))) H 0 47 (.agg (iv .u8 (shaF ([(0 : Int)] ++ b))).toArray) 32 (by kernel_rfl) rfl rfl (by exact (iv_length .u8 (shaF ([(0 : Int)] ++ b))).trans hf13) (by have h := (iv_length .u8 (List.replicate 32 0)).trans List.length_replicate; omega) (by exact iv_flat _ _) (by exact blit_all _ _ ((show (iv .u8 (shaF ([(0 : Int)] ++ b)) : List Value).length = 32 from (iv_length .u8 (shaF ([(0 : Int)] ++ b))).trans hf13).trans (show (iv .u8 (List.replicate 32 0) : List Value).length = 32 from (iv_length .u8 (List.replicate 32 0)).trans List.length_replicate).symm)) (fun w19 H => ?_)
  dsimp only [List.set] at H
  refine wc_nil rfl ?_
  refine n_sq ?_
  refine wn_seq (by kernel_rfl) ?_
  refine wn_seq (by kernel_rfl) ?_
  refine wn_reg 3 (by kernel_rfl) ?_
  refine wc_run (T' := [(0, .slice B b.length d), (3, .slice A6 ((b ++ [(7 : Int), 7, 7, 7, 7, 7, 7, 7, 7, 7, 7, 7]).length) c7), (4, .slice A6 b.length c7), (5, .pointer (some ⟨b14, 0, none⟩)), (6, .pointer (some ⟨b16, 0, none⟩)), (7, .int .i64 (↑b.length : Int))]) (L2 := (rng 3 0)) 3 [0, 3, 4, 5, 6, 7] (by kernel_rfl) ?_
  refine wc_nil rfl ?_
  refine n_sq ?_
  refine wn_block 0 (by kernel_rfl) ?_
  refine wn_loop (fun (i : Int) => [(0, .slice B b.length d), (3, .slice A6 ((b ++ [(7 : Int), 7, 7, 7, 7, 7, 7, 7, 7, 7, 7, 7]).length) c7), (4, .slice A6 b.length c7), (5, .pointer (some ⟨b14, 0, none⟩)), (6, .pointer (some ⟨b16, 0, none⟩)), (7, .int .i64 i)]) (fun (i : Int) w' => Hp no w w' [.bk b16 (row (iv .u8 (shaF ([(0 : Int)] ++ b))) 47), .bk b14 (row (iv .u8 (shaF b)) 47), .bk b4 (row ([.int .u8 7, .int .u8 7, .int .u8 7, .int .u8 7, .int .u8 7, .int .u8 7, .int .u8 7, .int .u8 7, .int .u8 7, .int .u8 7, .int .u8 7, .int .u8 7]) 5), .sl A6 ((b ++ [(7 : Int), 7, 7, 7, 7, 7, 7, 7, 7, 7, 7, 7]).length) c7 (iv .u8 (b ++ [(7 : Int), 7, 7, 7, 7, 7, 7, 7, 7, 7, 7, 7])) 5 1] ∧ (b.length : Int) ≤ i ∧ i ≤ b.length + 12) (fun (i : Int) => (b.length + 12 - i).toNat) ((↑b.length : Int)) [0, 3, 4, 5, 6, 7] (by kernel_rfl) rfl ⟨H, by omega⟩ ?_
  rintro i w20 ⟨H, hi⟩
  try dsimp only at H hi
  refine wn_pick (T' := [(0, .slice B b.length d), (3, .slice A6 ((b ++ [(7 : Int), 7, 7, 7, 7, 7, 7, 7, 7, 7, 7, 7]).length) c7), (4, .slice A6 b.length c7), (5, .pointer (some ⟨b14, 0, none⟩)), (6, .pointer (some ⟨b16, 0, none⟩)), (7, .int .i64 i)]) [0, 3, 4, 5, 6, 7] (by kernel_rfl) ?_
  have h7 := fun h => seven (b := b) hi.1 h
  have hln : (b ++ [(7 : Int), 7, 7, 7, 7, 7, 7, 7, 7, 7, 7, 7]).length = b.length + 12 := by simp
  refine wn_seq (by kernel_rfl) ?_
  refine wn_seq (by kernel_rfl) ?_
  refine wn_reg 4 (by kernel_rfl) ?_
  refine wc_run (T' := [(0, .slice B b.length d), (3, .slice A6 ((b ++ [(7 : Int), 7, 7, 7, 7, 7, 7, 7, 7, 7, 7, 7]).length) c7), (4, .slice A6 b.length c7), (5, .pointer (some ⟨b14, 0, none⟩)), (6, .pointer (some ⟨b16, 0, none⟩)), (7, .int .i64 i), (25, .bool (decide (i < (↑((b ++ [(7 : Int), 7, 7, 7, 7, 7, 7, 7, 7, 7, 7, 7]).length) : Int))))]) (L2 := (rng 4 0)) 4 [0, 3, 4, 5, 6, 7, 25] (by kernel_rfl) ?_
  refine wc_nil rfl ?_
  refine n_sq ?_
  refine wn_cond (.tmp 25) (decide (i < (↑((b ++ [(7 : Int), 7, 7, 7, 7, 7, 7, 7, 7, 7, 7, 7]).length) : Int))) (by kernel_rfl) rfl (fun hc21 => ?_) (fun hc21 => ?_)
  · have hc21 := of_decide_eq_true hc21
    refine wn_skip (by kernel_rfl) ?_
    refine n_sq ?_
    refine wn_seq (by kernel_rfl) ?_
    refine wn_block 1 (by kernel_rfl) ?_
    refine wn_seq (by kernel_rfl) ?_
    refine wn_reg 5 (by kernel_rfl) ?_
    refine wc_run (T' := [(0, .slice B b.length d), (3, .slice A6 ((b ++ [(7 : Int), 7, 7, 7, 7, 7, 7, 7, 7, 7, 7, 7]).length) c7), (4, .slice A6 b.length c7), (5, .pointer (some ⟨b14, 0, none⟩)), (6, .pointer (some ⟨b16, 0, none⟩)), (7, .int .i64 i), (28, .slice A6 ((b ++ [(7 : Int), 7, 7, 7, 7, 7, 7, 7, 7, 7, 7, 7]).length) c7), (29, .int .i64 i)]) (L2 := (rng 2 3)) 2 [0, 3, 4, 5, 6, 7, 28, 29] (by kernel_rfl) ?_
    refine wc_ixA (some 30) A6 ((b ++ [(7 : Int), 7, 7, 7, 7, 7, 7, 7, 7, 7, 7, 7]).length) 1 i i.toNat (by kernel_rfl) (Rd.isSome (cs := (iv .u8 (b ++ [(7 : Int), 7, 7, 7, 7, 7, 7, 7, 7, 7, 7, 7]))) (Rd.sl H 3 rfl) (by first | omega | (simp only [List.length_append, List.length_cons, List.length_nil, List.length_set, List.length_replicate, List.length_drop, List.length_take, iv_length, Nat.zero_add] at * <;> omega))) (by first | omega | (simp only [List.length_append, List.length_cons, List.length_nil, List.length_set, List.length_replicate, List.length_drop, List.length_take, iv_length, Nat.zero_add] at * <;> omega)) (by first | omega | (simp only [List.length_append, List.length_cons, List.length_nil, List.length_set, List.length_replicate, List.length_drop, List.length_take, iv_length, Nat.zero_add] at * <;> omega)) (by first | rfl | first | omega | (simp only [List.length_append, List.length_cons, List.length_nil, List.length_set, List.length_replicate, List.length_drop, List.length_take, iv_length, Nat.zero_add] at * <;> omega)) ?_
    refine wc_ldA (A := A6) (cs := (iv .u8 (b ++ [(7 : Int), 7, 7, 7, 7, 7, 7, 7, 7, 7, 7, 7]))) (Rd.sl H 3 rfl) (some 31) 5 i.toNat (.int .u8 ((b ++ [(7 : Int), 7, 7, 7, 7, 7, 7, 7, 7, 7, 7, 7]).getD i.toNat 0)) (by kernel_rfl) (Or.inl ⟨by kernel_rfl, iv_get (by first | omega | (simp only [List.length_append, List.length_cons, List.length_nil, List.length_set, List.length_replicate, List.length_drop, List.length_take, iv_length, Nat.zero_add] at * <;> omega))⟩) ?_
    refine wc_run (T' := [(0, .slice B b.length d), (3, .slice A6 ((b ++ [(7 : Int), 7, 7, 7, 7, 7, 7, 7, 7, 7, 7, 7]).length) c7), (4, .slice A6 b.length c7), (5, .pointer (some ⟨b14, 0, none⟩)), (6, .pointer (some ⟨b16, 0, none⟩)), (7, .int .i64 i), (32, .bool (((b ++ [(7 : Int), 7, 7, 7, 7, 7, 7, 7, 7, 7, 7, 7]).getD i.toNat 0) != (7 : Int)))]) (L2 := (rng 5 0)) 1 [0, 3, 4, 5, 6, 7, 32] (by kernel_rfl) ?_
    refine wc_nil rfl ?_
    refine n_sq ?_
    refine wn_cond (.tmp 32) (((b ++ [(7 : Int), 7, 7, 7, 7, 7, 7, 7, 7, 7, 7, 7]).getD i.toNat 0) != (7 : Int)) (by kernel_rfl) rfl (fun hc22 => ?_) (fun hc22 => ?_)
    · have hc22 := bneT hc22
      exact absurd hc22 (by first | omega | (simp only [List.length_append, List.length_cons, List.length_nil, List.length_set, List.length_replicate, List.length_drop, List.length_take, iv_length, Nat.zero_add] at * <;> omega))
    · have hc22 := bneF hc22
      refine wn_skip (by kernel_rfl) ?_
      refine n_blk ?_
      refine n_sq ?_
      refine wn_reg 3 (by kernel_rfl) ?_
      refine wc_run (T' := [(0, .slice B b.length d), (3, .slice A6 ((b ++ [(7 : Int), 7, 7, 7, 7, 7, 7, 7, 7, 7, 7, 7]).length) c7), (4, .slice A6 b.length c7), (5, .pointer (some ⟨b14, 0, none⟩)), (6, .pointer (some ⟨b16, 0, none⟩)), (27, .int .i64 (IntKind.i64.wrap (i + 1)))]) (L2 := (rng 2 1)) 2 [0, 3, 4, 5, 6, 27] (by kernel_rfl) ?_
      rw [wi64 (x := i + 1) (by first | omega | (simp only [List.length_append, List.length_cons, List.length_nil, List.length_set, List.length_replicate, List.length_drop, List.length_take, iv_length, Nat.zero_add] at * <;> omega)) (by first | omega | (simp only [List.length_append, List.length_cons, List.length_nil, List.length_set, List.length_replicate, List.length_drop, List.length_take, iv_length, Nat.zero_add] at * <;> omega))]
      refine wc_run (T' := [(0, .slice B b.length d), (3, .slice A6 ((b ++ [(7 : Int), 7, 7, 7, 7, 7, 7, 7, 7, 7, 7, 7]).length) c7), (4, .slice A6 b.length c7), (5, .pointer (some ⟨b14, 0, none⟩)), (6, .pointer (some ⟨b16, 0, none⟩)), (7, .int .i64 (i + 1))]) (L2 := (rng 3 0)) 1 [0, 3, 4, 5, 6, 7] (by kernel_rfl) ?_
      refine wc_nil rfl ?_
      refine round_end (i + 1) [0, 3, 4, 5, 6, 7] (by kernel_rfl) ⟨H, ?_⟩ ?_
      · omega
      · first | omega | (dsimp only; omega)
  · have hc21 := of_decide_eq_false hc21
    refine wn_exit 0 (by kernel_rfl) ?_
    refine e_sq ?_
    refine e_then ?_
    refine e_blk ?_
    refine n_sq ?_
    refine wn_seq (by kernel_rfl) ?_
    refine wn_regD [] (ol [0, 1, 2, 3, 4, 5, 6, 7, 8, 9, 10, 11, 12, 13, 14, 15, 16, 17, 18]) (by kernel_rfl) H (fun w23 H => ?_)
    refine wc_call (some 33) (by kernel_rfl) (law01_anchored w23) ?_
    rintro _ w24 ⟨rfl, H1⟩
    refine ⟨_, rfl, fun _ => H1.keep, ?_⟩
    replace H := H.call H1
    simp only [List.nil_append] at H
    refine wc_run (T' := [(0, .slice B b.length d), (5, .pointer (some ⟨b14, 0, none⟩)), (6, .pointer (some ⟨b16, 0, none⟩)), (34, .bool true), (35, .slice A6 b.length c7), (36, .slice B b.length d)]) (L2 := (ol [4, 5, 6, 7, 8, 9, 10, 11, 12, 13, 14, 15, 16, 17, 18])) 3 [0, 5, 6, 34, 35, 36] (by kernel_rfl) ?_
    refine wc_call (some 37) (by kernel_rfl) (proctorref01_Same w24 b A6 c7 b B d (by have h := Rd.pre (Rd.sl H 3 rfl) b.length; rw [List.take_left] at h; exact h) (hb.keep H.keep) hr hr) ?_
    rintro _ w25 ⟨rfl, H1⟩
    refine ⟨_, rfl, fun _ => H1.keep, ?_⟩
    replace H := H.call H1
    simp only [List.nil_append] at H
    refine wc_run (T' := [(0, .slice B b.length d), (5, .pointer (some ⟨b14, 0, none⟩)), (6, .pointer (some ⟨b16, 0, none⟩)), (39, .bool (decide (b = b)))]) (L2 := (ol [7, 8, 9, 10, 11, 12, 13, 14, 15, 16, 17, 18])) 2 [0, 5, 6, 39] (by kernel_rfl) ?_
    by_cases hg26 : b = b
    · rw [decide_eq_true hg26]
      refine wc_ld (b := b14) (off := 0) (some 40) 47 (.agg (iv .u8 (shaF b)).toArray) (by kernel_rfl) (Ld.entW H 1 (n := 32) rfl (by kernel_rfl) (by exact (iv_length .u8 (shaF b)).trans hf11)) ?_
      refine wc_run (T' := [(0, .slice B b.length d), (6, .pointer (some ⟨b16, 0, none⟩)), (39, .bool true), (40, .agg (iv .u8 (shaF b)).toArray), (41, .slice B b.length d)]) (L2 := (ol [9, 10, 11, 12, 13, 14, 15, 16, 17, 18])) 1 [0, 6, 39, 40, 41] (by kernel_rfl) ?_
      refine wc_call (some 42) (by kernel_rfl) (sha_Sum w25 b B d (hb.keep H.keep) (by omega)) ?_
      rintro _ w27 ⟨rfl, H1, hf28⟩
      refine ⟨_, rfl, fun _ => H1.keep, ?_⟩
      replace H := H.call H1
      simp only [List.nil_append] at H
      refine wc_eqA (c := true) 2 (some 43) 47 true (iv .u8 (shaF b)) (iv .u8 (shaF b)) (by kernel_rfl) (by have h := EqV.arrC (P := Try.prog) (t := 47) (k := .u8) (n := 32) (by kernel_rfl) (shaF b) (shaF b) (by exact hf28) (by exact hf28); rw [decide_eq_true rfl] at h; exact h) ?_
      simp only [if_true, Bool.false_eq_true, if_false, Bool.not_true]
      refine wc_run (T' := [(0, .slice B b.length d), (6, .pointer (some ⟨b16, 0, none⟩)), (45, .bool true)]) (L2 := (ol [13, 14, 15, 16, 17, 18])) 2 [0, 6, 45] (by kernel_rfl) ?_
      refine wc_ld (b := b16) (off := 0) (some 46) 47 (.agg (iv .u8 (shaF ([(0 : Int)] ++ b))).toArray) (by kernel_rfl) (Ld.entW H 0 (n := 32) rfl (by kernel_rfl) (by exact (iv_length .u8 (shaF ([(0 : Int)] ++ b))).trans hf13)) ?_
      refine wc_run (T' := [(45, .bool true), (46, .agg (iv .u8 (shaF ([(0 : Int)] ++ b))).toArray), (47, .slice B b.length d)]) (L2 := (ol [15, 16, 17, 18])) 1 [45, 46, 47] (by kernel_rfl) ?_
      refine wc_call (some 48) (by kernel_rfl) (sha_Leaf w27 b B d (hb.keep H.keep) hn) ?_
      rintro _ w29 ⟨rfl, H1, hf30⟩
      refine ⟨_, rfl, fun _ => H1.keep, ?_⟩
      replace H := H.call H1
      simp only [List.nil_append] at H
      refine wc_eqA (c := true) 2 (some 49) 47 true (iv .u8 (shaF ([(0 : Int)] ++ b))) (iv .u8 (shaF ([(0 : Int)] ++ b))) (by kernel_rfl) (by have h := EqV.arrC (P := Try.prog) (t := 47) (k := .u8) (n := 32) (by kernel_rfl) (shaF ([(0 : Int)] ++ b)) (shaF ([(0 : Int)] ++ b)) (by exact hf30) (by exact hf30); rw [decide_eq_true rfl] at h; exact h) ?_
      simp only [if_true, Bool.false_eq_true, if_false, Bool.not_true]
      refine wc_run (T' := [(2, .bool true)]) (L2 := (ol [])) 2 [2] (by kernel_rfl) ?_
      refine wc_nil rfl ?_
      refine n_np ?_
      refine n_sq ?_
      refine wn_ret (by kernel_rfl) ?_
      refine ret1 _ (Or.inr rfl) Try.results9 rfl ?_
      exact ⟨rfl, H.nil⟩
    · rw [decide_eq_false hg26]
      exact absurd rfl hg26
end Go.Proofs.Ytfeecdcanjkohaa
