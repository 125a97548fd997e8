/-
  Walks of some of this seat's functions: each call's answer, and what it leaves of memory. No condition beside those that stand in each theorem.
-/
import Derived.Test.YtfeecdcanjkohaaRows
import Derived.Test.YtfeecdcanjkohaaSa6
set_option linter.all false
namespace Go.Proofs.Ytfeecdcanjkohaa
open Go.RowKit Go.Px

abbrev Sv := Option Addr × Nat × List Int
def slC (ls : List Sv) : List Value := ls.flatMap fun s => [.slice s.1 s.2.2.length s.2.1]
theorem slC_length (ls : List Sv) : (slC ls).length = ls.length * 1 := by
  induction ls with
  | nil => rfl
  | cons s ls ih => simp only [slC, List.flatMap_cons, List.length_append, List.length_cons, List.length_nil] at *; omega
theorem slC_at : ∀ {ls : List Sv} {j : Nat}, j < ls.length → (slC ls)[j]? = some (.slice (ls.getD j default).1 (ls.getD j default).2.2.length (ls.getD j default).2.1)
  | [], j, h => by simp at h
  | s :: ls, 0, _ => by simp [slC]
  | s :: ls, j + 1, h => by
    have := slC_at (ls := ls) (j := j) (by simpa using h)
    simp only [slC, List.flatMap_cons, List.getD_cons_succ] at *
    rw [List.getElem?_append_right (by simp)]
    simpa using this
def catL (ls : List Sv) : List Int := ls.flatMap fun s => s.2.2
theorem catL_take {ls : List Sv} {i : Nat} (h : i < ls.length) : catL (ls.take (i + 1)) = catL (ls.take i) ++ (ls.getD i default).2.2 := by
  rw [List.take_succ, catL, List.flatMap_append, List.getD_eq_getElem?_getD, List.getElem?_eq_getElem h]
  simp [catL]
theorem catL_le (ls : List Sv) (i : Nat) : (catL (ls.take i)).length ≤ (catL ls).length := by
  have : ls = ls.take i ++ ls.drop i := (List.take_append_drop i ls).symm
  conv => rhs; rw [this]
  rw [catL, catL, List.flatMap_append, List.length_append]
  omega
theorem rdL_nil (w : World) : ∀ j, Rd w (([] : List Sv).getD j default).1 (iv .u8 (([] : List Sv).getD j default).2.2) := fun j => Or.inl rfl
theorem rdL_cons {w : World} {s : Sv} {ls : List Sv} (h : Rd w s.1 (iv .u8 s.2.2)) (h' : ∀ j, Rd w (ls.getD j default).1 (iv .u8 (ls.getD j default).2.2)) : ∀ j, Rd w ((s :: ls).getD j default).1 (iv .u8 ((s :: ls).getD j default).2.2)
  | 0 => h
  | j + 1 => h' j

noncomputable def cd_grow_bytes : Code := (Try.f66.body).getD .skip
theorem grow_bytes (w : World) (n : Int) (hn : 0 ≤ n ∧ n ≤ 140737488355328) :
    Calls Try.prog 66 #[.slice none 0 0, .int .i64 n] w (fun e w' => ∃ (A' : Option Addr), ∃ (c' : Nat), e = .returned (.slice A' 0 c') ∧ Hp no w w' [.sl A' 0 c' (iv .u8 []) 5 1]) := by
  refine enter (args := [_, _]) (c := cd_grow_bytes) (N := 27) Try.func66 (by kernel_rfl) (by kernel_rfl) (by simp) ?_
  have H := Hp.start w
  refine wn_seq (by kernel_rfl) ?_
  refine wn_reg 1 (by kernel_rfl) ?_
  refine wc_run (T' := [(0, .slice none 0 0), (1, .int .i64 n)]) (L2 := (rng 1 0)) 1 [0, 1] (by kernel_rfl) ?_
  refine wc_nil rfl ?_
  refine n_sq ?_
  refine wn_seq (by kernel_rfl) ?_
  refine wn_seq (by kernel_rfl) ?_
  refine wn_reg 2 (by kernel_rfl) ?_
  refine wc_run (T' := [(0, .slice none 0 0), (1, .int .i64 n), (6, .bool (decide (n < (0 : Int))))]) (L2 := (rng 2 0)) 2 [0, 1, 6] (by kernel_rfl) ?_
  refine wc_nil rfl ?_
  refine n_sq ?_
  refine wn_cond (.tmp 6) (decide (n < (0 : Int))) (by kernel_rfl) rfl (fun hc1 => ?_) (fun hc1 => ?_)
  · have hc1 := of_decide_eq_true hc1
    exact absurd hc1 (by first | omega | (simp only [List.length_append, List.length_cons, List.length_nil, List.length_set, List.length_replicate, List.length_drop, List.length_take, iv_length, Nat.zero_add] at * <;> omega))
  · have hc1 := of_decide_eq_false hc1
    refine wn_skip (by kernel_rfl) ?_
    refine n_sq ?_
    refine wn_seq (by kernel_rfl) ?_
    refine wn_seq (by kernel_rfl) ?_
    refine wn_reg 8 (by kernel_rfl) ?_
    refine wc_run (T' := [(0, .slice none 0 0), (14, .int .i64 (IntKind.i64.wrap (n - 0)))]) (L2 := (rng 7 1)) 7 [0, 14] (by kernel_rfl) ?_
    rw [wi64 (x := n - 0) (by first | omega | (simp only [List.length_append, List.length_cons, List.length_nil, List.length_set, List.length_replicate, List.length_drop, List.length_take, iv_length, Nat.zero_add] at * <;> omega)) (by first | omega | (simp only [List.length_append, List.length_cons, List.length_nil, List.length_set, List.length_replicate, List.length_drop, List.length_take, iv_length, Nat.zero_add] at * <;> omega))]
    refine wc_run (T' := [(0, .slice none 0 0), (1, .int .i64 (n - 0))]) (L2 := (rng 8 0)) 1 [0, 1] (by kernel_rfl) ?_
    refine wc_nil rfl ?_
    refine n_sq ?_
    refine wn_seq (by kernel_rfl) ?_
    refine wn_reg 2 (by kernel_rfl) ?_
    refine wc_run (T' := [(0, .slice none 0 0), (1, .int .i64 (n - 0)), (16, .bool (decide ((n - 0) > (0 : Int))))]) (L2 := (rng 2 0)) 2 [0, 1, 16] (by kernel_rfl) ?_
    refine wc_nil rfl ?_
    refine n_sq ?_
    refine wn_cond (.tmp 16) (decide ((n - 0) > (0 : Int))) (by kernel_rfl) rfl (fun hc2 => ?_) (fun hc2 => ?_)
    · have hc2 := of_decide_eq_true hc2
      refine wn_reg 10 (by kernel_rfl) ?_
      refine wc_run (T' := [(0, .slice none 0 0), (1, .int .i64 (n - 0)), (17, .slice none 0 0), (19, .int .i64 0)]) (L2 := (rng 3 7)) 3 [0, 1, 17, 19] (by kernel_rfl) ?_
      refine wc_sl (some 20) none 0 0 1 none (some 0) none none 0 0 (by kernel_rfl) (by kernel_rfl) (by simp) (by first | decide | omega | (simp only [Option.getD_some, Option.getD_none]; first | decide | omega | (simp only [List.length_append, List.length_cons, List.length_nil, List.length_drop, List.length_take] at * <;> omega))) (by first | decide | omega | (simp only [Option.getD_some, Option.getD_none]; first | decide | omega | (simp only [List.length_append, List.length_cons, List.length_nil, List.length_drop, List.length_take] at * <;> omega))) (by first | decide | omega | (simp only [Option.getD_some, Option.getD_none]; first | decide | omega | (simp only [List.length_append, List.length_cons, List.length_nil, List.length_drop, List.length_take] at * <;> omega))) (by first | decide | omega | (simp only [Option.getD_some, Option.getD_none]; first | decide | omega | (simp only [List.length_append, List.length_cons, List.length_nil, List.length_drop, List.length_take] at * <;> omega))) (by first | decide | omega | (simp only [Option.getD_some, Option.getD_none]; first | decide | omega | (simp only [List.length_append, List.length_cons, List.length_nil, List.length_drop, List.length_take] at * <;> omega))) (by first | decide | omega | (simp only [Option.getD_some, Option.getD_none]; first | decide | omega | (simp only [List.length_append, List.length_cons, List.length_nil, List.length_drop, List.length_take] at * <;> omega))) (by exact slA_zero _ _ _) ?_
      refine wc_run (T' := [(0, .slice none 0 0), (20, .slice none 0 0), (21, .int .i64 (n - 0))]) (L2 := (rng 5 5)) 1 [0, 20, 21] (by kernel_rfl) ?_
      have hz3 : n - 0 = (((n - 0).toNat : Nat) : Int) := by first | omega | (simp only [List.length_append, List.length_cons, List.length_nil, List.length_set, List.length_replicate, List.length_drop, List.length_take, iv_length, Nat.zero_add] at * <;> omega)
      rw [hz3]
      refine wc_az H (some 22) ((n - 0).toNat) 5 1 1 [.int .u8 0] (by kernel_rfl) (by first | omega | (simp only [List.length_append, List.length_cons, List.length_nil, List.length_set, List.length_replicate, List.length_drop, List.length_take, iv_length, Nat.zero_add] at * <;> omega)) (by first | omega | (simp only [List.length_append, List.length_cons, List.length_nil, List.length_set, List.length_replicate, List.length_drop, List.length_take, iv_length, Nat.zero_add] at * <;> omega)) (fun A4 c5 w6 H => ?_)
      rw [zrep_iv] at H
      refine wc_run (T' := [(22, .slice A4 ((n - 0).toNat) c5), (24, .int .i64 0)]) (L2 := (rng 8 2)) 2 [22, 24] (by kernel_rfl) ?_
      refine wc_sl (some 25) A4 ((n - 0).toNat) c5 1 none (some 0) none A4 0 c5 (by kernel_rfl) (by kernel_rfl) (by simp) (by first | decide | omega | (simp only [Option.getD_some, Option.getD_none]; first | decide | omega | (simp only [List.length_append, List.length_cons, List.length_nil, List.length_drop, List.length_take] at * <;> omega))) (by first | decide | omega | (simp only [Option.getD_some, Option.getD_none]; first | decide | omega | (simp only [List.length_append, List.length_cons, List.length_nil, List.length_drop, List.length_take] at * <;> omega))) (by first | decide | omega | (simp only [Option.getD_some, Option.getD_none]; first | decide | omega | (simp only [List.length_append, List.length_cons, List.length_nil, List.length_drop, List.length_take] at * <;> omega))) (by first | decide | omega | (simp only [Option.getD_some, Option.getD_none]; first | decide | omega | (simp only [List.length_append, List.length_cons, List.length_nil, List.length_drop, List.length_take] at * <;> omega))) (by first | decide | omega | (simp only [Option.getD_some, Option.getD_none]; first | decide | omega | (simp only [List.length_append, List.length_cons, List.length_nil, List.length_drop, List.length_take] at * <;> omega))) (by first | decide | omega | (simp only [Option.getD_some, Option.getD_none]; first | decide | omega | (simp only [List.length_append, List.length_cons, List.length_nil, List.length_drop, List.length_take] at * <;> omega))) (by exact slA_zero _ _ _) ?_
      refine wc_run (T' := [(0, .slice A4 0 c5)]) (L2 := (rng 10 0)) 1 [0] (by kernel_rfl) ?_
      refine wc_nil rfl ?_
      refine n_sq ?_
      refine wn_seq (by kernel_rfl) ?_
      refine wn_reg 2 (by kernel_rfl) ?_
      refine wc_run (T' := [(4, .slice A4 0 c5)]) (L2 := (rng 2 0)) 2 [4] (by kernel_rfl) ?_
      refine wc_nil rfl ?_
      refine n_sq ?_
      refine wn_ret (by kernel_rfl) ?_
      refine ret1 _ (Or.inr rfl) Try.results66 rfl ?_
      replace H := H.short 0 0 rfl (Nat.zero_le _)
      simp only [List.set, Nat.zero_mul, List.take_zero] at H
      exact ⟨A4, c5, rfl, H⟩
    · have hc2 := of_decide_eq_false hc2
      refine wn_skip (by kernel_rfl) ?_
      refine n_sq ?_
      refine wn_seq (by kernel_rfl) ?_
      refine wn_reg 2 (by kernel_rfl) ?_
      refine wc_run (T' := [(4, .slice none 0 0)]) (L2 := (rng 2 0)) 2 [4] (by kernel_rfl) ?_
      refine wc_nil rfl ?_
      refine n_sq ?_
      refine wn_ret (by kernel_rfl) ?_
      refine ret1 _ (Or.inr rfl) Try.results66 rfl ?_
      have H := H.nils 5 1
      exact ⟨none, 0, rfl, H⟩

noncomputable def cd_concat_bytes : Code := (Try.f58.body).getD .skip
theorem concat_bytes (w : World) (ls : List Sv) (A : Option Addr) (c : Nat) (hl : Rd w A (slC ls)) (hls : ∀ j, Rd w (ls.getD j default).1 (iv .u8 (ls.getD j default).2.2)) (hn : (catL ls).length ≤ 140737488355328) (hn2 : ls.length ≤ 1000) :
    Calls Try.prog 58 #[.slice A ls.length c] w (fun e w' => ∃ (A' : Option Addr), ∃ (c' : Nat), e = .returned (.slice A' ((catL ls).length) c') ∧ Hp no w w' [.sl A' ((catL ls).length) c' (iv .u8 (catL ls)) 5 1]) := by
  refine enter (args := [_]) (c := cd_concat_bytes) (N := 36) Try.func58 (by kernel_rfl) (by kernel_rfl) (by simp) ?_
  have H := Hp.start w
  refine wn_seq (by kernel_rfl) ?_
  refine wn_reg 1 (by kernel_rfl) ?_
  refine wc_run (T' := [(0, .slice A ls.length c)]) (L2 := (rng 1 0)) 1 [0] (by kernel_rfl) ?_
  refine wc_nil rfl ?_
  refine n_sq ?_
  refine wn_seq (by kernel_rfl) ?_
  refine wn_reg 1 (by kernel_rfl) ?_
  refine wc_run (T' := [(0, .slice A ls.length c), (3, .int .i64 0)]) (L2 := (rng 1 0)) 1 [0, 3] (by kernel_rfl) ?_
  refine wc_nil rfl ?_
  refine n_sq ?_
  refine wn_seq (by kernel_rfl) ?_
  refine wn_seq (by kernel_rfl) ?_
  refine wn_reg 3 (by kernel_rfl) ?_
  refine wc_run (T' := [(0, .slice A ls.length c), (3, .int .i64 0), (9, .slice A ls.length c), (10, .int .i64 (↑ls.length : Int)), (11, .int .i64 0)]) (L2 := (rng 3 0)) 3 [0, 3, 9, 10, 11] (by kernel_rfl) ?_
  refine wc_nil rfl ?_
  refine n_sq ?_
  refine wn_block 0 (by kernel_rfl) ?_
  refine wn_loop (fun ((i, z) : Int × Int) => [(0, .slice A ls.length c), (3, .int .i64 z), (9, .slice A ls.length c), (10, .int .i64 (↑ls.length : Int)), (11, .int .i64 i)]) (fun ((i, z) : Int × Int) w' => Hp no w w' [] ∧ 0 ≤ i ∧ i ≤ ls.length ∧ z = (catL (ls.take i.toNat)).length) (fun ((i, z) : Int × Int) => (ls.length - i).toNat) ((0 : Int), (0 : Int)) [0, 3, 9, 10, 11] (by kernel_rfl) rfl ⟨H, by simp [catL]⟩ ?_
  rintro ⟨i, z⟩ w1 ⟨H, hi⟩
  try dsimp only at H hi
  refine wn_pick (T' := [(0, .slice A ls.length c), (3, .int .i64 z), (9, .slice A ls.length c), (10, .int .i64 (↑ls.length : Int)), (11, .int .i64 i)]) [0, 3, 9, 10, 11] (by kernel_rfl) ?_
  have hc1 := catL_take (ls := ls) (i := i.toNat)
  have hc2 := catL_le ls i.toNat
  have hc3 := catL_le ls (i.toNat + 1)
  have hc5 : i.toNat < ls.length → (catL (ls.take i.toNat)).length + (ls.getD i.toNat default).2.2.length ≤ 140737488355328 := fun h => by rw [hc1 h, List.length_append] at hc3; omega
  refine wn_seq (by kernel_rfl) ?_
  refine wn_reg 1 (by kernel_rfl) ?_
  refine wc_run (T' := [(0, .slice A ls.length c), (3, .int .i64 z), (9, .slice A ls.length c), (10, .int .i64 (↑ls.length : Int)), (11, .int .i64 i), (12, .bool (decide (i < (↑ls.length : Int))))]) (L2 := (rng 1 0)) 1 [0, 3, 9, 10, 11, 12] (by kernel_rfl) ?_
  refine wc_nil rfl ?_
  refine n_sq ?_
  refine wn_seq (by kernel_rfl) ?_
  refine wn_cond (.tmp 12) (decide (i < (↑ls.length : Int))) (by kernel_rfl) rfl (fun hc2 => ?_) (fun hc2 => ?_)
  · have hc2 := of_decide_eq_true hc2
    refine wn_skip (by kernel_rfl) ?_
    refine n_sq ?_
    refine wn_seq (by kernel_rfl) ?_
    refine wn_block 1 (by kernel_rfl) ?_
    refine wn_seq (by kernel_rfl) ?_
    refine wn_reg 3 (by kernel_rfl) ?_
    refine wc_ixA (some 13) A ls.length 1 i i.toNat (by kernel_rfl) (Rd.isSome (cs := (slC ls)) (hl.keep H.keep) (by rw [slC_length]; first | omega | (simp only [List.length_append, List.length_cons, List.length_nil, List.length_set, List.length_replicate, List.length_drop, List.length_take, iv_length, Nat.zero_add] at * <;> omega))) (by first | omega | (simp only [List.length_append, List.length_cons, List.length_nil, List.length_set, List.length_replicate, List.length_drop, List.length_take, iv_length, Nat.zero_add] at * <;> omega)) (by first | omega | (simp only [List.length_append, List.length_cons, List.length_nil, List.length_set, List.length_replicate, List.length_drop, List.length_take, iv_length, Nat.zero_add] at * <;> omega)) (by first | rfl | first | omega | (simp only [List.length_append, List.length_cons, List.length_nil, List.length_set, List.length_replicate, List.length_drop, List.length_take, iv_length, Nat.zero_add] at * <;> omega)) ?_
    refine wc_ldA (A := A) (cs := (slC ls)) (hl.keep H.keep) (some 14) 50 i.toNat (.slice ((ls.getD i.toNat default).1) ((ls.getD i.toNat default).2.2.length) ((ls.getD i.toNat default).2.1)) (by kernel_rfl) (Or.inl ⟨by kernel_rfl, slC_at (by first | omega | (simp only [List.length_append, List.length_cons, List.length_nil, List.length_set, List.length_replicate, List.length_drop, List.length_take, iv_length, Nat.zero_add] at * <;> omega))⟩) ?_
    refine wc_run (T' := [(0, .slice A ls.length c), (3, .int .i64 z), (5, .slice ((ls.getD i.toNat default).1) ((ls.getD i.toNat default).2.2.length) ((ls.getD i.toNat default).2.1)), (9, .slice A ls.length c), (10, .int .i64 (↑ls.length : Int)), (11, .int .i64 i)]) (L2 := (rng 3 0)) 1 [0, 3, 5, 9, 10, 11] (by kernel_rfl) ?_
    refine wc_nil rfl ?_
    refine n_sq ?_
    refine wn_seq (by kernel_rfl) ?_
    refine wn_reg 5 (by kernel_rfl) ?_
    refine wc_run (T' := [(0, .slice A ls.length c), (9, .slice A ls.length c), (10, .int .i64 (↑ls.length : Int)), (11, .int .i64 i), (18, .int .i64 (IntKind.i64.wrap (z + (↑((ls.getD i.toNat default).2.2.length) : Int))))]) (L2 := (rng 4 1)) 4 [0, 9, 10, 11, 18] (by kernel_rfl) ?_
    rw [wi64 (x := z + (↑((ls.getD i.toNat default).2.2.length) : Int)) (by first | omega | (simp only [List.length_append, List.length_cons, List.length_nil, List.length_set, List.length_replicate, List.length_drop, List.length_take, iv_length, Nat.zero_add] at * <;> omega)) (by first | omega | (simp only [List.length_append, List.length_cons, List.length_nil, List.length_set, List.length_replicate, List.length_drop, List.length_take, iv_length, Nat.zero_add] at * <;> omega))]
    refine wc_run (T' := [(0, .slice A ls.length c), (3, .int .i64 (z + (↑((ls.getD i.toNat default).2.2.length) : Int))), (9, .slice A ls.length c), (10, .int .i64 (↑ls.length : Int)), (11, .int .i64 i)]) (L2 := (rng 5 0)) 1 [0, 3, 9, 10, 11] (by kernel_rfl) ?_
    refine wc_nil rfl ?_
    refine n_sq ?_
    refine wn_seq (by kernel_rfl) ?_
    refine wn_reg 2 (by kernel_rfl) ?_
    refine wc_run (T' := [(0, .slice A ls.length c), (3, .int .i64 (z + (↑((ls.getD i.toNat default).2.2.length) : Int))), (9, .slice A ls.length c), (10, .int .i64 (↑ls.length : Int)), (11, .int .i64 i), (20, .bool (decide ((z + (↑((ls.getD i.toNat default).2.2.length) : Int)) < (0 : Int))))]) (L2 := (rng 2 0)) 2 [0, 3, 9, 10, 11, 20] (by kernel_rfl) ?_
    refine wc_nil rfl ?_
    refine n_sq ?_
    refine wn_cond (.tmp 20) (decide ((z + (↑((ls.getD i.toNat default).2.2.length) : Int)) < (0 : Int))) (by kernel_rfl) rfl (fun hc3 => ?_) (fun hc3 => ?_)
    · have hc3 := of_decide_eq_true hc3
      exact absurd hc3 (by first | omega | (simp only [List.length_append, List.length_cons, List.length_nil, List.length_set, List.length_replicate, List.length_drop, List.length_take, iv_length, Nat.zero_add] at * <;> omega))
    · have hc3 := of_decide_eq_false hc3
      refine wn_skip (by kernel_rfl) ?_
      refine n_blk ?_
      refine n_sq ?_
      refine wn_reg 2 (by kernel_rfl) ?_
      refine wc_run (T' := [(0, .slice A ls.length c), (3, .int .i64 (z + (↑((ls.getD i.toNat default).2.2.length) : Int))), (9, .slice A ls.length c), (10, .int .i64 (↑ls.length : Int)), (22, .int .i64 (IntKind.i64.wrap (i + 1)))]) (L2 := (rng 1 1)) 1 [0, 3, 9, 10, 22] (by kernel_rfl) ?_
      rw [wi64 (x := i + 1) (by first | omega | (simp only [List.length_append, List.length_cons, List.length_nil, List.length_set, List.length_replicate, List.length_drop, List.length_take, iv_length, Nat.zero_add] at * <;> omega)) (by first | omega | (simp only [List.length_append, List.length_cons, List.length_nil, List.length_set, List.length_replicate, List.length_drop, List.length_take, iv_length, Nat.zero_add] at * <;> omega))]
      refine wc_run (T' := [(0, .slice A ls.length c), (3, .int .i64 (z + (↑((ls.getD i.toNat default).2.2.length) : Int))), (9, .slice A ls.length c), (10, .int .i64 (↑ls.length : Int)), (11, .int .i64 (i + 1))]) (L2 := (rng 2 0)) 1 [0, 3, 9, 10, 11] (by kernel_rfl) ?_
      refine wc_nil rfl ?_
      refine round_end (i + 1, z + (↑((ls.getD i.toNat default).2.2.length) : Int)) [0, 3, 9, 10, 11] (by kernel_rfl) ⟨H, ?_⟩ ?_
      · obtain ⟨h1, h2, h3⟩ := hi
        have e1 : (i + 1).toNat = i.toNat + 1 := by omega
        refine ⟨by omega, by omega, ?_⟩
        rw [e1, hc1 (by omega), List.length_append]; omega
      · first | omega | (dsimp only; omega)
  · have hc2 := of_decide_eq_false hc2
    refine wn_exit 0 (by kernel_rfl) ?_
    refine e_sq ?_
    refine e_then ?_
    refine e_blk ?_
    refine n_sq ?_
    refine wn_seq (by kernel_rfl) ?_
    refine wn_reg 3 (by kernel_rfl) ?_
    refine wc_run (T' := [(0, .slice A ls.length c), (23, .int .i64 z)]) (L2 := (rng 1 2)) 1 [0, 23] (by kernel_rfl) ?_
    refine wc_call (some 24) (by kernel_rfl) (grow_bytes w1 z (by first | with_reducible assumption | omega | (simp_all; done))) ?_
    rintro _ w6 ⟨A4, c5, rfl, H1⟩
    refine ⟨_, rfl, fun _ => H1.keep, ?_⟩
    replace H := H.call H1
    simp only [List.nil_append, List.cons_append] at H
    refine wc_run (T' := [(0, .slice A ls.length c), (6, .slice A4 0 c5)]) (L2 := (rng 3 0)) 1 [0, 6] (by kernel_rfl) ?_
    refine wc_nil rfl ?_
    refine n_sq ?_
    refine wn_seq (by kernel_rfl) ?_
    refine wn_seq (by kernel_rfl) ?_
    refine wn_reg 3 (by kernel_rfl) ?_
    refine wc_run (T' := [(6, .slice A4 0 c5), (25, .slice A ls.length c), (26, .int .i64 (↑ls.length : Int)), (27, .int .i64 0)]) (L2 := (rng 3 0)) 3 [6, 25, 26, 27] (by kernel_rfl) ?_
    refine wc_nil rfl ?_
    refine n_sq ?_
    refine wn_block 2 (by kernel_rfl) ?_
    refine wn_loop (fun ((i, q, Aq, cq) : Int × List Int × Option Addr × Nat) => [(6, .slice Aq q.length cq), (25, .slice A ls.length c), (26, .int .i64 (↑ls.length : Int)), (27, .int .i64 i)]) (fun ((i, q, Aq, cq) : Int × List Int × Option Addr × Nat) w' => Hp no w w' [.sl Aq q.length cq (iv .u8 q) 5 1] ∧ 0 ≤ i ∧ i ≤ ls.length ∧ q = catL (ls.take i.toNat)) (fun ((i, q, Aq, cq) : Int × List Int × Option Addr × Nat) => (ls.length - i).toNat) ((0 : Int), [], A4, c5) [6, 25, 26, 27] (by kernel_rfl) rfl ⟨H, by simp [catL]⟩ ?_
    rintro ⟨i, q, Aq, cq⟩ w7 ⟨H, hi⟩
    try dsimp only at H hi
    refine wn_pick (T' := [(6, .slice Aq q.length cq), (25, .slice A ls.length c), (26, .int .i64 (↑ls.length : Int)), (27, .int .i64 i)]) [6, 25, 26, 27] (by kernel_rfl) ?_
    have hc1 := catL_take (ls := ls) (i := i.toNat)
    have hc2 := catL_le ls i.toNat
    have hc3 := catL_le ls (i.toNat + 1)
    have hc4 : q.length = (catL (ls.take i.toNat)).length := by rw [hi.2.2]
    have hc5 : i.toNat < ls.length → q.length + (ls.getD i.toNat default).2.2.length ≤ 140737488355328 := fun h => by rw [hc1 h, List.length_append] at hc3; omega
    refine wn_seq (by kernel_rfl) ?_
    refine wn_reg 1 (by kernel_rfl) ?_
    refine wc_run (T' := [(6, .slice Aq q.length cq), (25, .slice A ls.length c), (26, .int .i64 (↑ls.length : Int)), (27, .int .i64 i), (28, .bool (decide (i < (↑ls.length : Int))))]) (L2 := (rng 1 0)) 1 [6, 25, 26, 27, 28] (by kernel_rfl) ?_
    refine wc_nil rfl ?_
    refine n_sq ?_
    refine wn_seq (by kernel_rfl) ?_
    refine wn_cond (.tmp 28) (decide (i < (↑ls.length : Int))) (by kernel_rfl) rfl (fun hc8 => ?_) (fun hc8 => ?_)
    · have hc8 := of_decide_eq_true hc8
      refine wn_skip (by kernel_rfl) ?_
      refine n_sq ?_
      refine wn_seq (by kernel_rfl) ?_
      refine wn_block 3 (by kernel_rfl) ?_
      refine wn_seq (by kernel_rfl) ?_
      refine wn_reg 3 (by kernel_rfl) ?_
      refine wc_ixA (some 29) A ls.length 1 i i.toNat (by kernel_rfl) (Rd.isSome (cs := (slC ls)) (hl.keep H.keep) (by rw [slC_length]; first | omega | (simp only [List.length_append, List.length_cons, List.length_nil, List.length_set, List.length_replicate, List.length_drop, List.length_take, iv_length, Nat.zero_add] at * <;> omega))) (by first | omega | (simp only [List.length_append, List.length_cons, List.length_nil, List.length_set, List.length_replicate, List.length_drop, List.length_take, iv_length, Nat.zero_add] at * <;> omega)) (by first | omega | (simp only [List.length_append, List.length_cons, List.length_nil, List.length_set, List.length_replicate, List.length_drop, List.length_take, iv_length, Nat.zero_add] at * <;> omega)) (by first | rfl | first | omega | (simp only [List.length_append, List.length_cons, List.length_nil, List.length_set, List.length_replicate, List.length_drop, List.length_take, iv_length, Nat.zero_add] at * <;> omega)) ?_
      refine wc_ldA (A := A) (cs := (slC ls)) (hl.keep H.keep) (some 30) 50 i.toNat (.slice ((ls.getD i.toNat default).1) ((ls.getD i.toNat default).2.2.length) ((ls.getD i.toNat default).2.1)) (by kernel_rfl) (Or.inl ⟨by kernel_rfl, slC_at (by first | omega | (simp only [List.length_append, List.length_cons, List.length_nil, List.length_set, List.length_replicate, List.length_drop, List.length_take, iv_length, Nat.zero_add] at * <;> omega))⟩) ?_
      refine wc_run (T' := [(6, .slice Aq q.length cq), (8, .slice ((ls.getD i.toNat default).1) ((ls.getD i.toNat default).2.2.length) ((ls.getD i.toNat default).2.1)), (25, .slice A ls.length c), (26, .int .i64 (↑ls.length : Int)), (27, .int .i64 i)]) (L2 := (rng 3 0)) 1 [6, 8, 25, 26, 27] (by kernel_rfl) ?_
      refine wc_nil rfl ?_
      refine n_sq ?_
      refine wn_reg 4 (by kernel_rfl) ?_
      refine wc_run (T' := [(25, .slice A ls.length c), (26, .int .i64 (↑ls.length : Int)), (27, .int .i64 i), (31, .slice Aq q.length cq), (32, .slice ((ls.getD i.toNat default).1) ((ls.getD i.toNat default).2.2.length) ((ls.getD i.toNat default).2.1))]) (L2 := (rng 2 2)) 2 [25, 26, 27, 31, 32] (by kernel_rfl) ?_
      refine wc_appN H 0 (some 33) (A := Aq) (n := q.length) (c := cq) (B := ((ls.getD i.toNat default).1)) (mm := ((ls.getD i.toNat default).2.2.length)) (cc := ((ls.getD i.toNat default).2.1)) (t := 50) (e := 5) 1 1 (xs := (iv .u8 q)) (ys := (iv .u8 ((ls.getD i.toNat default).2.2))) (zs := (iv .u8 (q ++ ((ls.getD i.toNat default).2.2)))) ((q ++ ((ls.getD i.toNat default).2.2)).length) (by kernel_rfl) rfl ((hls i.toNat).keep H.keep) (by simp [iv]; try first | omega | (simp only [List.length_append, List.length_cons, List.length_nil, List.length_set, List.length_replicate, List.length_drop, List.length_take, iv_length, Nat.zero_add] at * <;> omega)) (by first | exact iv_flat _ _ | simp [Value.oneCell']) (by first | omega | (simp only [List.length_append, List.length_cons, List.length_nil, List.length_set, List.length_replicate, List.length_drop, List.length_take, iv_length, Nat.zero_add] at * <;> omega)) (by simp [iv]) (by first | omega | (simp only [List.length_append, List.length_cons, List.length_nil, List.length_set, List.length_replicate, List.length_drop, List.length_take, iv_length, Nat.zero_add] at * <;> omega)) (fun A9 c10 w11 H => ?_)
      dsimp only [List.set] at H
      refine wc_run (T' := [(6, .slice A9 ((q ++ ((ls.getD i.toNat default).2.2)).length) c10), (25, .slice A ls.length c), (26, .int .i64 (↑ls.length : Int)), (27, .int .i64 i)]) (L2 := (rng 4 0)) 1 [6, 25, 26, 27] (by kernel_rfl) ?_
      refine wc_nil rfl ?_
      refine n_blk ?_
      refine n_sq ?_
      refine wn_reg 2 (by kernel_rfl) ?_
      refine wc_run (T' := [(6, .slice A9 ((q ++ ((ls.getD i.toNat default).2.2)).length) c10), (25, .slice A ls.length c), (26, .int .i64 (↑ls.length : Int)), (34, .int .i64 (IntKind.i64.wrap (i + 1)))]) (L2 := (rng 1 1)) 1 [6, 25, 26, 34] (by kernel_rfl) ?_
      rw [wi64 (x := i + 1) (by first | omega | (simp only [List.length_append, List.length_cons, List.length_nil, List.length_set, List.length_replicate, List.length_drop, List.length_take, iv_length, Nat.zero_add] at * <;> omega)) (by first | omega | (simp only [List.length_append, List.length_cons, List.length_nil, List.length_set, List.length_replicate, List.length_drop, List.length_take, iv_length, Nat.zero_add] at * <;> omega))]
      refine wc_run (T' := [(6, .slice A9 ((q ++ ((ls.getD i.toNat default).2.2)).length) c10), (25, .slice A ls.length c), (26, .int .i64 (↑ls.length : Int)), (27, .int .i64 (i + 1))]) (L2 := (rng 2 0)) 1 [6, 25, 26, 27] (by kernel_rfl) ?_
      refine wc_nil rfl ?_
      refine round_end (i + 1, (q ++ ((ls.getD i.toNat default).2.2)), A9, c10) [6, 25, 26, 27] (by kernel_rfl) ⟨H, ?_⟩ ?_
      · obtain ⟨h1, h2, h3⟩ := hi
        have e1 : (i + 1).toNat = i.toNat + 1 := by omega
        refine ⟨by omega, by omega, ?_⟩
        rw [e1, hc1 (by omega), ← h3]
      · first | omega | (dsimp only; omega)
    · have hc8 := of_decide_eq_false hc8
      refine wn_exit 2 (by kernel_rfl) ?_
      refine e_sq ?_
      refine e_then ?_
      refine e_blk ?_
      refine n_sq ?_
      refine wn_seq (by kernel_rfl) ?_
      refine wn_reg 2 (by kernel_rfl) ?_
      refine wc_run (T' := [(2, .slice Aq q.length cq)]) (L2 := (rng 2 0)) 2 [2] (by kernel_rfl) ?_
      refine wc_nil rfl ?_
      refine n_sq ?_
      refine wn_ret (by kernel_rfl) ?_
      refine ret1 _ (Or.inr rfl) Try.results58 rfl ?_
      have he12 : (catL ls) = q := by
        obtain ⟨h1, h2, h3⟩ := hi
        rw [h3, List.take_of_length_le (by omega)]
      exact ⟨Aq, cq, by first | (rw [he12]; done) | (rw [he12]; rfl), (by rw [he12]; exact H)⟩
end Go.Proofs.Ytfeecdcanjkohaa
