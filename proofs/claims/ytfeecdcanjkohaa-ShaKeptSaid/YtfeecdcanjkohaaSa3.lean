/-
  Walks of some of this seat's functions: each call's answer, and what it leaves of memory. No condition beside those that stand in each theorem.
-/
import Derived.Test.YtfeecdcanjkohaaRows
import Derived.Test.YtfeecdcanjkohaaSa1
import Derived.Test.YtfeecdcanjkohaaOps2
set_option linter.all false
namespace Go.Proofs.Ytfeecdcanjkohaa
open Go.RowKit Go.Px

def padZ (n : Nat) : Nat := (119 - n % 64) % 64
def padF (b : List Int) : List Int := b ++ 128 :: List.replicate (padZ b.length) 0 ++ ei8 ((b.length : Int) * 8)
theorem padF_length (b : List Int) : (padF b).length = b.length + 9 + padZ b.length := by
  simp [padF, ei8_length]; omega
theorem padF_mod (b : List Int) : (padF b).length % 64 = 0 := by
  rw [padF_length]; unfold padZ; omega
theorem padF_le (b : List Int) : (padF b).length ≤ b.length + 72 := by
  rw [padF_length]; unfold padZ; omega
theorem Rd.isNone_nil {w : World} {A : Option Addr} {b : List Int} (h : Rd w A (iv .u8 b)) (hA : A.isNone = true) : b = [] := by
  cases A with
  | none => have := h.none_nil; simpa [iv] using this
  | some a => simp at hA

noncomputable def cd_clone_bytes : Code := (Try.f61.body).getD .skip
theorem clone_bytes (w : World) (b : List Int) (A : Option Addr) (c : Nat) (hb : Rd w A (iv .u8 b)) (hn : b.length ≤ 140737488355000) :
    Calls Try.prog 61 #[.slice A b.length c] w (fun e w' => ∃ (A' : Option Addr), ∃ (c' : Nat), e = .returned (.slice A' b.length c') ∧ Hp no w w' [.sl A' b.length c' (iv .u8 b) 5 1]) := by
  refine enter (args := [_]) (c := cd_clone_bytes) (N := 8) Try.func61 (by kernel_rfl) (by kernel_rfl) (by simp) ?_
  have H := Hp.start w
  refine wn_seq (by kernel_rfl) ?_
  refine wn_reg 1 (by kernel_rfl) ?_
  refine wc_run (T' := [(0, .slice A b.length c)]) (L2 := (rng 1 0)) 1 [0] (by kernel_rfl) ?_
  refine wc_nil rfl ?_
  refine n_sq ?_
  refine wn_seq (by kernel_rfl) ?_
  refine wn_seq (by kernel_rfl) ?_
  refine wn_reg 2 (by kernel_rfl) ?_
  refine wc_run (T' := [(0, .slice A b.length c), (3, .slice A b.length c)]) (L2 := (rng 1 1)) 1 [0, 3] (by kernel_rfl) ?_
  refine wc_sn (some 4) true A (by kernel_rfl) ?_
  simp only [if_true, Bool.false_eq_true, if_false]
  refine wc_nil rfl ?_
  refine n_sq ?_
  refine wn_cond (.tmp 4) A.isNone (by kernel_rfl) rfl (fun hc1 => ?_) (fun hc1 => ?_)
  · refine wn_seq (by kernel_rfl) ?_
    refine wn_reg 1 (by kernel_rfl) ?_
    refine wc_run (T' := [(2, .slice none 0 0)]) (L2 := (rng 1 0)) 1 [2] (by kernel_rfl) ?_
    refine wc_nil rfl ?_
    refine n_sq ?_
    refine wn_ret (by kernel_rfl) ?_
    refine r_sq ?_
    refine ret1 _ (Or.inr rfl) Try.results61 rfl ?_
    have H := H.nils 5 1
    have he2 : b = [] := by
      exact Rd.isNone_nil hb hc1
    exact ⟨none, 0, by first | (rw [he2]; done) | (rw [he2]; rfl), (by rw [he2]; exact H)⟩
  · refine wn_skip (by kernel_rfl) ?_
    refine n_sq ?_
    refine wn_seq (by kernel_rfl) ?_
    refine wn_reg 4 (by kernel_rfl) ?_
    refine wc_new H (some 5) (row [] 5) (fun r => .slice (some ⟨r, 0, none⟩) 0 0) (by kernel_rfl) (fun b3 w4 H => ?_)
    refine wc_run (T' := [(5, .slice (some ⟨b3, 0, none⟩) 0 0), (6, .slice A b.length c)]) (L2 := (rng 2 2)) 1 [5, 6] (by kernel_rfl) ?_
    replace H := H.toSl 0 0 1 (cs := (iv .u8 [])) (e := 5) rfl (by rfl) (by decide)
    dsimp only [List.set] at H
    refine wc_appN H 0 (some 7) (A := (some ⟨b3, 0, none⟩)) (n := 0) (c := 0) (B := A) (mm := b.length) (cc := c) (t := 50) (e := 5) 1 1 (xs := (iv .u8 [])) (ys := (iv .u8 b)) (zs := (iv .u8 b)) b.length (by kernel_rfl) rfl (hb.keep H.keep) (by simp [iv]; try first | omega | (simp only [List.length_append, List.length_cons, List.length_nil, List.length_set, List.length_replicate, List.length_drop, List.length_take, iv_length, Nat.zero_add] at * <;> omega)) (by first | exact iv_flat _ _ | simp [Value.oneCell']) (by first | omega | (simp only [List.length_append, List.length_cons, List.length_nil, List.length_set, List.length_replicate, List.length_drop, List.length_take, iv_length, Nat.zero_add] at * <;> omega)) (by simp [iv]) (by first | omega | (simp only [List.length_append, List.length_cons, List.length_nil, List.length_set, List.length_replicate, List.length_drop, List.length_take, iv_length, Nat.zero_add] at * <;> omega)) (fun A5 c6 w7 H => ?_)
    dsimp only [List.set] at H
    refine wc_run (T' := [(2, .slice A5 b.length c6)]) (L2 := (rng 4 0)) 1 [2] (by kernel_rfl) ?_
    refine wc_nil rfl ?_
    refine n_sq ?_
    refine wn_ret (by kernel_rfl) ?_
    refine ret1 _ (Or.inr rfl) Try.results61 rfl ?_
    exact ⟨A5, c6, rfl, H⟩

noncomputable def cd_sha_padded : Code := (Try.f54.body).getD .skip
theorem sha_padded (w : World) (b : List Int) (A : Option Addr) (c : Nat) (hb : Rd w A (iv .u8 b)) (hn : b.length ≤ 140737488355000) :
    Calls Try.prog 54 #[.slice A b.length c] w (fun e w' => ∃ (A' : Option Addr), ∃ (c' : Nat), e = .returned (.slice A' ((padF b).length) c') ∧ Hp no w w' [.sl A' ((padF b).length) c' (iv .u8 (padF b)) 5 1]) := by
  refine enter (args := [_]) (c := cd_sha_padded) (N := 33) Try.func54 (by kernel_rfl) (by kernel_rfl) (by simp) ?_
  have H := Hp.start w
  refine wn_seq (by kernel_rfl) ?_
  refine wn_reg 1 (by kernel_rfl) ?_
  refine wc_run (T' := [(0, .slice A b.length c)]) (L2 := (rng 1 0)) 1 [0] (by kernel_rfl) ?_
  refine wc_nil rfl ?_
  refine n_sq ?_
  refine wn_seq (by kernel_rfl) ?_
  refine wn_reg 5 (by kernel_rfl) ?_
  refine wc_run (T' := [(0, .slice A b.length c), (6, .slice A b.length c)]) (L2 := (rng 1 4)) 1 [0, 6] (by kernel_rfl) ?_
  refine wc_call (some 7) (by kernel_rfl) (clone_bytes w b A c (hb.keep H.keep) hn) ?_
  rintro _ w3 ⟨A1, c2, rfl, H1⟩
  refine ⟨_, rfl, fun _ => H1.keep, ?_⟩
  replace H := H.call H1
  simp only [List.nil_append, List.cons_append] at H
  refine wc_new H (some 8) (row ([.int .u8 128]) 5) (fun r => .slice (some ⟨r, 0, none⟩) 1 1) (by kernel_rfl) (fun b4 w5 H => ?_)
  refine wc_appN H 1 (some 9) (A := A1) (n := b.length) (c := c2) (B := (some ⟨b4, 0, none⟩)) (mm := 1) (cc := 1) (t := 50) (e := 5) 1 1 (xs := (iv .u8 b)) (ys := (iv .u8 ([(128 : Int)]))) (zs := (iv .u8 (b ++ [(128 : Int)]))) ((b ++ [(128 : Int)]).length) (by kernel_rfl) rfl (Rd.of_ent H (k := 0) (off := 0) (n := 1) rfl (by rfl)) (by simp [iv]; try first | omega | (simp only [List.length_append, List.length_cons, List.length_nil, List.length_set, List.length_replicate, List.length_drop, List.length_take, iv_length, Nat.zero_add] at * <;> omega)) (by first | exact iv_flat _ _ | simp [Value.oneCell']) (by first | omega | (simp only [List.length_append, List.length_cons, List.length_nil, List.length_set, List.length_replicate, List.length_drop, List.length_take, iv_length, Nat.zero_add] at * <;> omega)) (by simp [iv]) (by first | omega | (simp only [List.length_append, List.length_cons, List.length_nil, List.length_set, List.length_replicate, List.length_drop, List.length_take, iv_length, Nat.zero_add] at * <;> omega)) (fun A6 c7 w8 H => ?_)
  dsimp only [List.set] at H
  refine wc_run (T' := [(0, .slice A b.length c), (3, .slice A6 ((b ++ [(128 : Int)]).length) c7)]) (L2 := (rng 5 0)) 1 [0, 3] (by kernel_rfl) ?_
  refine wc_nil rfl ?_
  refine n_sq ?_
  refine wn_seq (by kernel_rfl) ?_
  refine wn_block 0 (by kernel_rfl) ?_
  refine wn_loop (fun ((q, Aq, cq) : List Int × Option Addr × Nat) => [(0, .slice A b.length c), (3, .slice Aq q.length cq)]) (fun ((q, Aq, cq) : List Int × Option Addr × Nat) w' => Hp no w w' [.bk b4 (row ([.int .u8 128]) 5), .sl Aq q.length cq (iv .u8 q) 5 1] ∧ ∃ j, j ≤ padZ b.length ∧ q = b ++ 128 :: List.replicate j 0) (fun ((q, Aq, cq) : List Int × Option Addr × Nat) => b.length + 1 + padZ b.length - q.length) ((b ++ [(128 : Int)]), A6, c7) [0, 3] (by kernel_rfl) rfl ⟨H, ⟨0, Nat.zero_le _, by simp⟩⟩ ?_
  rintro ⟨q, Aq, cq⟩ w9 ⟨H, hi⟩
  try dsimp only at H hi
  refine wn_pick (T' := [(0, .slice A b.length c), (3, .slice Aq q.length cq)]) [0, 3] (by kernel_rfl) ?_
  obtain ⟨j, hj, hq⟩ := hi
  have hql : q.length = b.length + 1 + j := by rw [hq]; simp; omega
  have hz : padZ b.length < 64 := by unfold padZ; omega
  refine wn_seq (by kernel_rfl) ?_
  refine wn_seq (by kernel_rfl) ?_
  refine wn_reg 4 (by kernel_rfl) ?_
  refine wc_run (T' := [(0, .slice A b.length c), (3, .slice Aq q.length cq), (12, .int .i64 ((↑q.length : Int).tmod 64))]) (L2 := (rng 3 1)) 3 [0, 3, 12] (by kernel_rfl) ?_
  rw [Int.tmod_eq_emod_of_nonneg (a := (↑q.length : Int)) (b := 64) (by first | omega | (simp only [List.length_append, List.length_cons, List.length_nil, List.length_set, List.length_replicate, List.length_drop, List.length_take, iv_length, Nat.zero_add] at * <;> omega))]
  refine wc_run (T' := [(0, .slice A b.length c), (3, .slice Aq q.length cq), (13, .bool (((↑q.length : Int) % 64) != (56 : Int)))]) (L2 := (rng 4 0)) 1 [0, 3, 13] (by kernel_rfl) ?_
  refine wc_nil rfl ?_
  refine n_sq ?_
  refine wn_cond (.tmp 13) (((↑q.length : Int) % 64) != (56 : Int)) (by kernel_rfl) rfl (fun hc10 => ?_) (fun hc10 => ?_)
  · have hc10 := bneT hc10
    refine wn_skip (by kernel_rfl) ?_
    refine n_sq ?_
    refine wn_block 1 (by kernel_rfl) ?_
    refine wn_reg 4 (by kernel_rfl) ?_
    refine wc_run (T' := [(0, .slice A b.length c), (14, .slice Aq q.length cq)]) (L2 := (rng 1 3)) 1 [0, 14] (by kernel_rfl) ?_
    refine wc_new H (some 15) (row ([.int .u8 0]) 5) (fun r => .slice (some ⟨r, 0, none⟩) 1 1) (by kernel_rfl) (fun b11 w12 H => ?_)
    refine wc_appN H 2 (some 16) (A := Aq) (n := q.length) (c := cq) (B := (some ⟨b11, 0, none⟩)) (mm := 1) (cc := 1) (t := 50) (e := 5) 1 1 (xs := (iv .u8 q)) (ys := (iv .u8 ([(0 : Int)]))) (zs := (iv .u8 (q ++ [(0 : Int)]))) ((q ++ [(0 : Int)]).length) (by kernel_rfl) rfl (Rd.of_ent H (k := 0) (off := 0) (n := 1) rfl (by rfl)) (by simp [iv]; try first | omega | (simp only [List.length_append, List.length_cons, List.length_nil, List.length_set, List.length_replicate, List.length_drop, List.length_take, iv_length, Nat.zero_add] at * <;> omega)) (by first | exact iv_flat _ _ | simp [Value.oneCell']) (by first | omega | (simp only [List.length_append, List.length_cons, List.length_nil, List.length_set, List.length_replicate, List.length_drop, List.length_take, iv_length, Nat.zero_add] at * <;> omega)) (by simp [iv]) (by first | omega | (simp only [List.length_append, List.length_cons, List.length_nil, List.length_set, List.length_replicate, List.length_drop, List.length_take, iv_length, Nat.zero_add] at * <;> omega)) (fun A13 c14 w15 H => ?_)
    dsimp only [List.set] at H
    refine wc_run (T' := [(0, .slice A b.length c), (3, .slice A13 ((q ++ [(0 : Int)]).length) c14)]) (L2 := (rng 4 0)) 1 [0, 3] (by kernel_rfl) ?_
    refine wc_nil rfl ?_
    refine n_blk ?_
    refine round_end ((q ++ [(0 : Int)]), A13, c14) [0, 3] (by kernel_rfl) ⟨H.sel [1, 2] (by decide) rfl, ?_⟩ ?_
    · have hz2 : (b.length + 1 + padZ b.length) % 64 = 56 := by unfold padZ; omega
      refine ⟨j + 1, by omega, ?_⟩
      rw [hq, List.replicate_succ']; simp
    · simp only [List.length_append, List.length_cons, List.length_nil]; have hz2 : (b.length + 1 + padZ b.length) % 64 = 56 := by unfold padZ; omega
      omega
  · have hc10 := bneF hc10
    refine wn_exit 0 (by kernel_rfl) ?_
    refine e_sq ?_
    refine e_then ?_
    refine e_blk ?_
    refine n_sq ?_
    refine wn_seq (by kernel_rfl) ?_
    refine wn_reg 5 (by kernel_rfl) ?_
    refine wc_run (T' := [(3, .slice Aq q.length cq), (19, .int .u64 (IntKind.u64.wrap ((↑b.length : Int))))]) (L2 := (rng 3 2)) 3 [3, 19] (by kernel_rfl) ?_
    rw [wu64 (x := (↑b.length : Int)) (by first | omega | (simp only [List.length_append, List.length_cons, List.length_nil, List.length_set, List.length_replicate, List.length_drop, List.length_take, iv_length, Nat.zero_add] at * <;> omega)) (by first | omega | (simp only [List.length_append, List.length_cons, List.length_nil, List.length_set, List.length_replicate, List.length_drop, List.length_take, iv_length, Nat.zero_add] at * <;> omega))]
    refine wc_run (T' := [(3, .slice Aq q.length cq), (20, .int .u64 (IntKind.u64.wrap ((↑b.length : Int) * 8)))]) (L2 := (rng 4 1)) 1 [3, 20] (by kernel_rfl) ?_
    rw [wu64 (x := (↑b.length : Int) * 8) (by first | omega | (simp only [List.length_append, List.length_cons, List.length_nil, List.length_set, List.length_replicate, List.length_drop, List.length_take, iv_length, Nat.zero_add] at * <;> omega)) (by first | omega | (simp only [List.length_append, List.length_cons, List.length_nil, List.length_set, List.length_replicate, List.length_drop, List.length_take, iv_length, Nat.zero_add] at * <;> omega))]
    refine wc_run (T' := [(3, .slice Aq q.length cq), (4, .int .u64 ((↑b.length : Int) * 8))]) (L2 := (rng 5 0)) 1 [3, 4] (by kernel_rfl) ?_
    refine wc_nil rfl ?_
    refine n_sq ?_
    refine wn_seq (by kernel_rfl) ?_
    refine wn_seq (by kernel_rfl) ?_
    refine wn_reg 1 (by kernel_rfl) ?_
    refine wc_run (T' := [(3, .slice Aq q.length cq), (4, .int .u64 ((↑b.length : Int) * 8)), (5, .int .i64 56)]) (L2 := (rng 1 0)) 1 [3, 4, 5] (by kernel_rfl) ?_
    refine wc_nil rfl ?_
    refine n_sq ?_
    refine wn_block 2 (by kernel_rfl) ?_
    refine wn_loop (fun ((q, i, Aq, cq) : List Int × Int × Option Addr × Nat) => [(3, .slice Aq q.length cq), (4, .int .u64 ((↑b.length : Int) * 8)), (5, .int .i64 i)]) (fun ((q, i, Aq, cq) : List Int × Int × Option Addr × Nat) w' => Hp no w w' [.bk b4 (row ([.int .u8 128]) 5), .sl Aq q.length cq (iv .u8 q) 5 1] ∧ -8 ≤ i ∧ i ≤ 56 ∧ i % 8 = 0 ∧ q.length = b.length + 1 + padZ b.length + ((56 - i) / 8).toNat ∧ q = b ++ 128 :: List.replicate (padZ b.length) 0 ++ itN (e8S ((b.length : Int) * 8)) ((56 - i) / 8).toNat []) (fun ((q, i, Aq, cq) : List Int × Int × Option Addr × Nat) => (i + 8).toNat) (q, (56 : Int), Aq, cq) [3, 4, 5] (by kernel_rfl) rfl ⟨H, by
  have hz2 : (b.length + 1 + padZ b.length) % 64 = 56 := by unfold padZ; omega
  have hjz : j = padZ b.length := by omega
  subst hjz
  refine ⟨by omega, by omega, by omega, by simp only [hql]; rfl, by rw [hq]; simp [itN]⟩⟩ ?_
    rintro ⟨q, i, Aq, cq⟩ w16 ⟨H, hi⟩
    try dsimp only at H hi
    refine wn_pick (T' := [(3, .slice Aq q.length cq), (4, .int .u64 ((↑b.length : Int) * 8)), (5, .int .i64 i)]) [3, 4, 5] (by kernel_rfl) ?_
    have hz : padZ b.length < 64 := by unfold padZ; omega
    refine wn_seq (by kernel_rfl) ?_
    refine wn_seq (by kernel_rfl) ?_
    refine wn_reg 2 (by kernel_rfl) ?_
    refine wc_run (T' := [(3, .slice Aq q.length cq), (4, .int .u64 ((↑b.length : Int) * 8)), (5, .int .i64 i), (22, .bool (decide (i ≥ (0 : Int))))]) (L2 := (rng 2 0)) 2 [3, 4, 5, 22] (by kernel_rfl) ?_
    refine wc_nil rfl ?_
    refine n_sq ?_
    refine wn_cond (.tmp 22) (decide (i ≥ (0 : Int))) (by kernel_rfl) rfl (fun hc17 => ?_) (fun hc17 => ?_)
    · have hc17 := of_decide_eq_true hc17
      refine wn_skip (by kernel_rfl) ?_
      refine n_sq ?_
      refine wn_seq (by kernel_rfl) ?_
      refine wn_block 3 (by kernel_rfl) ?_
      refine wn_reg 8 (by kernel_rfl) ?_
      refine wc_run (T' := [(4, .int .u64 ((↑b.length : Int) * 8)), (5, .int .i64 i), (25, .slice Aq q.length cq), (26, .int .u64 ((↑b.length : Int) * 8)), (27, .int .i64 i)]) (L2 := (rng 3 5)) 3 [4, 5, 25, 26, 27] (by kernel_rfl) ?_
      refine wc_shr (some 28) .u64 ((↑b.length : Int) * 8) i (by kernel_rfl) (by kernel_rfl) (by omega) ?_
      refine wc_run (T' := [(4, .int .u64 ((↑b.length : Int) * 8)), (5, .int .i64 i), (25, .slice Aq q.length cq), (29, .int .u8 (IntKind.u8.wrap (shrV .u64 ((↑b.length : Int) * 8) i)))]) (L2 := (rng 5 3)) 1 [4, 5, 25, 29] (by kernel_rfl) ?_
      refine wc_new H (some 30) (row ([.int .u8 (IntKind.u8.wrap (shrV .u64 ((↑b.length : Int) * 8) i))]) 5) (fun r => .slice (some ⟨r, 0, none⟩) 1 1) (by kernel_rfl) (fun b18 w19 H => ?_)
      refine wc_appN H 2 (some 31) (A := Aq) (n := q.length) (c := cq) (B := (some ⟨b18, 0, none⟩)) (mm := 1) (cc := 1) (t := 50) (e := 5) 1 1 (xs := (iv .u8 q)) (ys := (iv .u8 ([IntKind.u8.wrap (shrV .u64 ((↑b.length : Int) * 8) i)]))) (zs := (iv .u8 (q ++ [IntKind.u8.wrap (shrV .u64 ((↑b.length : Int) * 8) i)]))) ((q ++ [IntKind.u8.wrap (shrV .u64 ((↑b.length : Int) * 8) i)]).length) (by kernel_rfl) rfl (Rd.of_ent H (k := 0) (off := 0) (n := 1) rfl (by rfl)) (by simp [iv]; try first | omega | (simp only [List.length_append, List.length_cons, List.length_nil, List.length_set, List.length_replicate, List.length_drop, List.length_take, iv_length, Nat.zero_add] at * <;> omega)) (by first | exact iv_flat _ _ | simp [Value.oneCell']) (by first | omega | (simp only [List.length_append, List.length_cons, List.length_nil, List.length_set, List.length_replicate, List.length_drop, List.length_take, iv_length, Nat.zero_add] at * <;> omega)) (by simp [iv]) (by first | omega | (simp only [List.length_append, List.length_cons, List.length_nil, List.length_set, List.length_replicate, List.length_drop, List.length_take, iv_length, Nat.zero_add] at * <;> omega)) (fun A20 c21 w22 H => ?_)
      dsimp only [List.set] at H
      refine wc_run (T' := [(3, .slice A20 ((q ++ [IntKind.u8.wrap (shrV .u64 ((↑b.length : Int) * 8) i)]).length) c21), (4, .int .u64 ((↑b.length : Int) * 8)), (5, .int .i64 i)]) (L2 := (rng 8 0)) 1 [3, 4, 5] (by kernel_rfl) ?_
      refine wc_nil rfl ?_
      refine n_blk ?_
      refine n_sq ?_
      refine wn_reg 3 (by kernel_rfl) ?_
      refine wc_run (T' := [(3, .slice A20 ((q ++ [IntKind.u8.wrap (shrV .u64 ((↑b.length : Int) * 8) i)]).length) c21), (4, .int .u64 ((↑b.length : Int) * 8)), (24, .int .i64 (IntKind.i64.wrap (i - 8)))]) (L2 := (rng 2 1)) 2 [3, 4, 24] (by kernel_rfl) ?_
      rw [wi64 (x := i - 8) (by first | omega | (simp only [List.length_append, List.length_cons, List.length_nil, List.length_set, List.length_replicate, List.length_drop, List.length_take, iv_length, Nat.zero_add] at * <;> omega)) (by first | omega | (simp only [List.length_append, List.length_cons, List.length_nil, List.length_set, List.length_replicate, List.length_drop, List.length_take, iv_length, Nat.zero_add] at * <;> omega))]
      refine wc_run (T' := [(3, .slice A20 ((q ++ [IntKind.u8.wrap (shrV .u64 ((↑b.length : Int) * 8) i)]).length) c21), (4, .int .u64 ((↑b.length : Int) * 8)), (5, .int .i64 (i - 8))]) (L2 := (rng 3 0)) 1 [3, 4, 5] (by kernel_rfl) ?_
      refine wc_nil rfl ?_
      refine round_end ((q ++ [IntKind.u8.wrap (shrV .u64 ((↑b.length : Int) * 8) i)]), i - 8, A20, c21) [3, 4, 5] (by kernel_rfl) ⟨H.sel [1, 2] (by decide) rfl, ?_⟩ ?_
      · obtain ⟨h1, h2, h3, h4, h5⟩ := hi
        have e1 : ((56 - (i - 8)) / 8).toNat = ((56 - i) / 8).toNat + 1 := by omega
        have e2 : 8 * (7 - ((((56 - i) / 8).toNat : Nat) : Int)) = i := by omega
        refine ⟨by omega, by omega, by omega, by simp only [List.length_append, List.length_cons, List.length_nil]; omega, ?_⟩
        rw [e1, itN, e8S, e2, h5]; simp
      · first | omega | (dsimp only; omega)
    · have hc17 := of_decide_eq_false hc17
      refine wn_exit 2 (by kernel_rfl) ?_
      refine e_sq ?_
      refine e_then ?_
      refine e_blk ?_
      refine n_sq ?_
      refine wn_seq (by kernel_rfl) ?_
      refine wn_reg 2 (by kernel_rfl) ?_
      refine wc_run (T' := [(2, .slice Aq q.length cq)]) (L2 := (rng 2 0)) 2 [2] (by kernel_rfl) ?_
      refine wc_nil rfl ?_
      refine n_sq ?_
      refine wn_ret (by kernel_rfl) ?_
      refine ret1 _ (Or.inr rfl) Try.results54 rfl ?_
      have he23 : (padF b) = q := by
        obtain ⟨h1, h2, h3, h4, h5⟩ := hi
        have e : ((56 - i) / 8).toNat = 8 := by omega
        rw [h5, e]; rfl
      exact ⟨Aq, cq, by first | (rw [he23]; done) | (rw [he23]; rfl), (by rw [he23]; exact H.sel [1] (by decide) rfl)⟩

noncomputable def cd_proctorref01_padded : Code := (Try.f56.body).getD .skip
theorem proctorref01_padded (w : World) (b : List Int) (A : Option Addr) (c : Nat) (hb : Rd w A (iv .u8 b)) (hn : b.length ≤ 140737488355000) :
    Calls Try.prog 56 #[.slice A b.length c] w (fun e w' => ∃ (A' : Option Addr), ∃ (c' : Nat), e = .returned (.slice A' ((padF b).length) c') ∧ Hp no w w' [.sl A' ((padF b).length) c' (iv .u8 (padF b)) 5 1]) := by
  refine enter (args := [_]) (c := cd_proctorref01_padded) (N := 36) Try.func56 (by kernel_rfl) (by kernel_rfl) (by simp) ?_
  have H := Hp.start w
  refine wn_seq (by kernel_rfl) ?_
  refine wn_reg 1 (by kernel_rfl) ?_
  refine wc_run (T' := [(0, .slice A b.length c)]) (L2 := (rng 1 0)) 1 [0] (by kernel_rfl) ?_
  refine wc_nil rfl ?_
  refine n_sq ?_
  refine wn_seq (by kernel_rfl) ?_
  refine wn_reg 6 (by kernel_rfl) ?_
  refine wc_new H (some 6) (row [] 5) (fun r => .slice (some ⟨r, 0, none⟩) 0 0) (by kernel_rfl) (fun b1 w2 H => ?_)
  refine wc_run (T' := [(0, .slice A b.length c), (6, .slice (some ⟨b1, 0, none⟩) 0 0), (7, .slice A b.length c)]) (L2 := (rng 2 4)) 1 [0, 6, 7] (by kernel_rfl) ?_
  replace H := H.toSl 0 0 1 (cs := (iv .u8 [])) (e := 5) rfl (by rfl) (by decide)
  dsimp only [List.set] at H
  refine wc_appN H 0 (some 8) (A := (some ⟨b1, 0, none⟩)) (n := 0) (c := 0) (B := A) (mm := b.length) (cc := c) (t := 50) (e := 5) 1 1 (xs := (iv .u8 [])) (ys := (iv .u8 b)) (zs := (iv .u8 b)) b.length (by kernel_rfl) rfl (hb.keep H.keep) (by simp [iv]; try first | omega | (simp only [List.length_append, List.length_cons, List.length_nil, List.length_set, List.length_replicate, List.length_drop, List.length_take, iv_length, Nat.zero_add] at * <;> omega)) (by first | exact iv_flat _ _ | simp [Value.oneCell']) (by first | omega | (simp only [List.length_append, List.length_cons, List.length_nil, List.length_set, List.length_replicate, List.length_drop, List.length_take, iv_length, Nat.zero_add] at * <;> omega)) (by simp [iv]) (by first | omega | (simp only [List.length_append, List.length_cons, List.length_nil, List.length_set, List.length_replicate, List.length_drop, List.length_take, iv_length, Nat.zero_add] at * <;> omega)) (fun A3 c4 w5 H => ?_)
  dsimp only [List.set] at H
  refine wc_new H (some 9) (row ([.int .u8 128]) 5) (fun r => .slice (some ⟨r, 0, none⟩) 1 1) (by kernel_rfl) (fun b6 w7 H => ?_)
  refine wc_appN H 1 (some 10) (A := A3) (n := b.length) (c := c4) (B := (some ⟨b6, 0, none⟩)) (mm := 1) (cc := 1) (t := 50) (e := 5) 1 1 (xs := (iv .u8 b)) (ys := (iv .u8 ([(128 : Int)]))) (zs := (iv .u8 (b ++ [(128 : Int)]))) ((b ++ [(128 : Int)]).length) (by kernel_rfl) rfl (Rd.of_ent H (k := 0) (off := 0) (n := 1) rfl (by rfl)) (by simp [iv]; try first | omega | (simp only [List.length_append, List.length_cons, List.length_nil, List.length_set, List.length_replicate, List.length_drop, List.length_take, iv_length, Nat.zero_add] at * <;> omega)) (by first | exact iv_flat _ _ | simp [Value.oneCell']) (by first | omega | (simp only [List.length_append, List.length_cons, List.length_nil, List.length_set, List.length_replicate, List.length_drop, List.length_take, iv_length, Nat.zero_add] at * <;> omega)) (by simp [iv]) (by first | omega | (simp only [List.length_append, List.length_cons, List.length_nil, List.length_set, List.length_replicate, List.length_drop, List.length_take, iv_length, Nat.zero_add] at * <;> omega)) (fun A8 c9 w10 H => ?_)
  dsimp only [List.set] at H
  refine wc_run (T' := [(0, .slice A b.length c), (3, .slice A8 ((b ++ [(128 : Int)]).length) c9)]) (L2 := (rng 6 0)) 1 [0, 3] (by kernel_rfl) ?_
  refine wc_nil rfl ?_
  refine n_sq ?_
  refine wn_seq (by kernel_rfl) ?_
  refine wn_block 0 (by kernel_rfl) ?_
  refine wn_loop (fun ((q, Aq, cq) : List Int × Option Addr × Nat) => [(0, .slice A b.length c), (3, .slice Aq q.length cq)]) (fun ((q, Aq, cq) : List Int × Option Addr × Nat) w' => Hp no w w' [.bk b6 (row ([.int .u8 128]) 5), .sl Aq q.length cq (iv .u8 q) 5 1] ∧ ∃ j, j ≤ padZ b.length ∧ q = b ++ 128 :: List.replicate j 0) (fun ((q, Aq, cq) : List Int × Option Addr × Nat) => b.length + 1 + padZ b.length - q.length) ((b ++ [(128 : Int)]), A8, c9) [0, 3] (by kernel_rfl) rfl ⟨H, ⟨0, Nat.zero_le _, by simp⟩⟩ ?_
  rintro ⟨q, Aq, cq⟩ w11 ⟨H, hi⟩
  try dsimp only at H hi
  refine wn_pick (T' := [(0, .slice A b.length c), (3, .slice Aq q.length cq)]) [0, 3] (by kernel_rfl) ?_
  obtain ⟨j, hj, hq⟩ := hi
  have hql : q.length = b.length + 1 + j := by rw [hq]; simp; omega
  have hz : padZ b.length < 64 := by unfold padZ; omega
  refine wn_seq (by kernel_rfl) ?_
  refine wn_seq (by kernel_rfl) ?_
  refine wn_reg 4 (by kernel_rfl) ?_
  refine wc_run (T' := [(0, .slice A b.length c), (3, .slice Aq q.length cq), (13, .int .i64 ((↑q.length : Int).tmod 64))]) (L2 := (rng 3 1)) 3 [0, 3, 13] (by kernel_rfl) ?_
  rw [Int.tmod_eq_emod_of_nonneg (a := (↑q.length : Int)) (b := 64) (by first | omega | (simp only [List.length_append, List.length_cons, List.length_nil, List.length_set, List.length_replicate, List.length_drop, List.length_take, iv_length, Nat.zero_add] at * <;> omega))]
  refine wc_run (T' := [(0, .slice A b.length c), (3, .slice Aq q.length cq), (14, .bool (((↑q.length : Int) % 64) != (56 : Int)))]) (L2 := (rng 4 0)) 1 [0, 3, 14] (by kernel_rfl) ?_
  refine wc_nil rfl ?_
  refine n_sq ?_
  refine wn_cond (.tmp 14) (((↑q.length : Int) % 64) != (56 : Int)) (by kernel_rfl) rfl (fun hc12 => ?_) (fun hc12 => ?_)
  · have hc12 := bneT hc12
    refine wn_skip (by kernel_rfl) ?_
    refine n_sq ?_
    refine wn_block 1 (by kernel_rfl) ?_
    refine wn_reg 4 (by kernel_rfl) ?_
    refine wc_run (T' := [(0, .slice A b.length c), (15, .slice Aq q.length cq)]) (L2 := (rng 1 3)) 1 [0, 15] (by kernel_rfl) ?_
    refine wc_new H (some 16) (row ([.int .u8 0]) 5) (fun r => .slice (some ⟨r, 0, none⟩) 1 1) (by kernel_rfl) (fun b13 w14 H => ?_)
    refine wc_appN H 2 (some 17) (A := Aq) (n := q.length) (c := cq) (B := (some ⟨b13, 0, none⟩)) (mm := 1) (cc := 1) (t := 50) (e := 5) 1 1 (xs := (iv .u8 q)) (ys := (iv .u8 ([(0 : Int)]))) (zs := (iv .u8 (q ++ [(0 : Int)]))) ((q ++ [(0 : Int)]).length) (by kernel_rfl) rfl (Rd.of_ent H (k := 0) (off := 0) (n := 1) rfl (by rfl)) (by simp [iv]; try first | omega | (simp only [List.length_append, List.length_cons, List.length_nil, List.length_set, List.length_replicate, List.length_drop, List.length_take, iv_length, Nat.zero_add] at * <;> omega)) (by first | exact iv_flat _ _ | simp [Value.oneCell']) (by first | omega | (simp only [List.length_append, List.length_cons, List.length_nil, List.length_set, List.length_replicate, List.length_drop, List.length_take, iv_length, Nat.zero_add] at * <;> omega)) (by simp [iv]) (by first | omega | (simp only [List.length_append, List.length_cons, List.length_nil, List.length_set, List.length_replicate, List.length_drop, List.length_take, iv_length, Nat.zero_add] at * <;> omega)) (fun A15 c16 w17 H => ?_)
    dsimp only [List.set] at H
    refine wc_run (T' := [(0, .slice A b.length c), (3, .slice A15 ((q ++ [(0 : Int)]).length) c16)]) (L2 := (rng 4 0)) 1 [0, 3] (by kernel_rfl) ?_
    refine wc_nil rfl ?_
    refine n_blk ?_
    refine round_end ((q ++ [(0 : Int)]), A15, c16) [0, 3] (by kernel_rfl) ⟨H.sel [1, 2] (by decide) rfl, ?_⟩ ?_
    · have hz2 : (b.length + 1 + padZ b.length) % 64 = 56 := by unfold padZ; omega
      refine ⟨j + 1, by omega, ?_⟩
      rw [hq, List.replicate_succ']; simp
    · simp only [List.length_append, List.length_cons, List.length_nil]; have hz2 : (b.length + 1 + padZ b.length) % 64 = 56 := by unfold padZ; omega
      omega
  · have hc12 := bneF hc12
    refine wn_exit 0 (by kernel_rfl) ?_
    refine e_sq ?_
    refine e_then ?_
    refine e_blk ?_
    refine n_sq ?_
    refine wn_seq (by kernel_rfl) ?_
    refine wn_reg 5 (by kernel_rfl) ?_
    refine wc_run (T' := [(3, .slice Aq q.length cq), (20, .int .u64 (IntKind.u64.wrap ((↑b.length : Int))))]) (L2 := (rng 3 2)) 3 [3, 20] (by kernel_rfl) ?_
    rw [wu64 (x := (↑b.length : Int)) (by first | omega | (simp only [List.length_append, List.length_cons, List.length_nil, List.length_set, List.length_replicate, List.length_drop, List.length_take, iv_length, Nat.zero_add] at * <;> omega)) (by first | omega | (simp only [List.length_append, List.length_cons, List.length_nil, List.length_set, List.length_replicate, List.length_drop, List.length_take, iv_length, Nat.zero_add] at * <;> omega))]
    refine wc_run (T' := [(3, .slice Aq q.length cq), (21, .int .u64 (IntKind.u64.wrap ((↑b.length : Int) * 8)))]) (L2 := (rng 4 1)) 1 [3, 21] (by kernel_rfl) ?_
    rw [wu64 (x := (↑b.length : Int) * 8) (by first | omega | (simp only [List.length_append, List.length_cons, List.length_nil, List.length_set, List.length_replicate, List.length_drop, List.length_take, iv_length, Nat.zero_add] at * <;> omega)) (by first | omega | (simp only [List.length_append, List.length_cons, List.length_nil, List.length_set, List.length_replicate, List.length_drop, List.length_take, iv_length, Nat.zero_add] at * <;> omega))]
    refine wc_run (T' := [(3, .slice Aq q.length cq), (4, .int .u64 ((↑b.length : Int) * 8))]) (L2 := (rng 5 0)) 1 [3, 4] (by kernel_rfl) ?_
    refine wc_nil rfl ?_
    refine n_sq ?_
    refine wn_seq (by kernel_rfl) ?_
    refine wn_seq (by kernel_rfl) ?_
    refine wn_reg 1 (by kernel_rfl) ?_
    refine wc_run (T' := [(3, .slice Aq q.length cq), (4, .int .u64 ((↑b.length : Int) * 8)), (5, .int .i64 7)]) (L2 := (rng 1 0)) 1 [3, 4, 5] (by kernel_rfl) ?_
    refine wc_nil rfl ?_
    refine n_sq ?_
    refine wn_block 2 (by kernel_rfl) ?_
    refine wn_loop (fun ((q, i, Aq, cq) : List Int × Int × Option Addr × Nat) => [(3, .slice Aq q.length cq), (4, .int .u64 ((↑b.length : Int) * 8)), (5, .int .i64 i)]) (fun ((q, i, Aq, cq) : List Int × Int × Option Addr × Nat) w' => Hp no w w' [.bk b6 (row ([.int .u8 128]) 5), .sl Aq q.length cq (iv .u8 q) 5 1] ∧ -1 ≤ i ∧ i ≤ 7 ∧ q.length = b.length + 1 + padZ b.length + (7 - i).toNat ∧ q = b ++ 128 :: List.replicate (padZ b.length) 0 ++ itN (e8S ((b.length : Int) * 8)) (7 - i).toNat []) (fun ((q, i, Aq, cq) : List Int × Int × Option Addr × Nat) => (i + 8).toNat) (q, (7 : Int), Aq, cq) [3, 4, 5] (by kernel_rfl) rfl ⟨H, by
  have hz2 : (b.length + 1 + padZ b.length) % 64 = 56 := by unfold padZ; omega
  have hjz : j = padZ b.length := by omega
  subst hjz
  refine ⟨by omega, by omega, by simp only [hql]; rfl, by rw [hq]; simp [itN]⟩⟩ ?_
    rintro ⟨q, i, Aq, cq⟩ w18 ⟨H, hi⟩
    try dsimp only at H hi
    refine wn_pick (T' := [(3, .slice Aq q.length cq), (4, .int .u64 ((↑b.length : Int) * 8)), (5, .int .i64 i)]) [3, 4, 5] (by kernel_rfl) ?_
    have hz : padZ b.length < 64 := by unfold padZ; omega
    refine wn_seq (by kernel_rfl) ?_
    refine wn_seq (by kernel_rfl) ?_
    refine wn_reg 2 (by kernel_rfl) ?_
    refine wc_run (T' := [(3, .slice Aq q.length cq), (4, .int .u64 ((↑b.length : Int) * 8)), (5, .int .i64 i), (23, .bool (decide (i ≥ (0 : Int))))]) (L2 := (rng 2 0)) 2 [3, 4, 5, 23] (by kernel_rfl) ?_
    refine wc_nil rfl ?_
    refine n_sq ?_
    refine wn_cond (.tmp 23) (decide (i ≥ (0 : Int))) (by kernel_rfl) rfl (fun hc19 => ?_) (fun hc19 => ?_)
    · have hc19 := of_decide_eq_true hc19
      refine wn_skip (by kernel_rfl) ?_
      refine n_sq ?_
      refine wn_seq (by kernel_rfl) ?_
      refine wn_block 3 (by kernel_rfl) ?_
      refine wn_reg 10 (by kernel_rfl) ?_
      refine wc_run (T' := [(4, .int .u64 ((↑b.length : Int) * 8)), (5, .int .i64 i), (26, .slice Aq q.length cq), (27, .int .u64 ((↑b.length : Int) * 8)), (29, .int .i64 (IntKind.i64.wrap (8 * i)))]) (L2 := (rng 4 6)) 4 [4, 5, 26, 27, 29] (by kernel_rfl) ?_
      rw [wi64 (x := 8 * i) (by first | omega | (simp only [List.length_append, List.length_cons, List.length_nil, List.length_set, List.length_replicate, List.length_drop, List.length_take, iv_length, Nat.zero_add] at * <;> omega)) (by first | omega | (simp only [List.length_append, List.length_cons, List.length_nil, List.length_set, List.length_replicate, List.length_drop, List.length_take, iv_length, Nat.zero_add] at * <;> omega))]
      refine wc_run (T' := [(4, .int .u64 ((↑b.length : Int) * 8)), (5, .int .i64 i), (26, .slice Aq q.length cq), (27, .int .u64 ((↑b.length : Int) * 8)), (30, .int .u64 (IntKind.u64.wrap (8 * i)))]) (L2 := (rng 5 5)) 1 [4, 5, 26, 27, 30] (by kernel_rfl) ?_
      rw [wu64 (x := 8 * i) (by first | omega | (simp only [List.length_append, List.length_cons, List.length_nil, List.length_set, List.length_replicate, List.length_drop, List.length_take, iv_length, Nat.zero_add] at * <;> omega)) (by first | omega | (simp only [List.length_append, List.length_cons, List.length_nil, List.length_set, List.length_replicate, List.length_drop, List.length_take, iv_length, Nat.zero_add] at * <;> omega))]
      refine wc_shr (some 31) .u64 ((↑b.length : Int) * 8) (8 * i) (by kernel_rfl) (by kernel_rfl) (by omega) ?_
      refine wc_run (T' := [(4, .int .u64 ((↑b.length : Int) * 8)), (5, .int .i64 i), (26, .slice Aq q.length cq), (32, .int .u8 (IntKind.u8.wrap (shrV .u64 ((↑b.length : Int) * 8) (8 * i))))]) (L2 := (rng 7 3)) 1 [4, 5, 26, 32] (by kernel_rfl) ?_
      refine wc_new H (some 33) (row ([.int .u8 (IntKind.u8.wrap (shrV .u64 ((↑b.length : Int) * 8) (8 * i)))]) 5) (fun r => .slice (some ⟨r, 0, none⟩) 1 1) (by kernel_rfl) (fun b20 w21 H => ?_)
      refine wc_appN H 2 (some 34) (A := Aq) (n := q.length) (c := cq) (B := (some ⟨b20, 0, none⟩)) (mm := 1) (cc := 1) (t := 50) (e := 5) 1 1 (xs := (iv .u8 q)) (ys := (iv .u8 ([IntKind.u8.wrap (shrV .u64 ((↑b.length : Int) * 8) (8 * i))]))) (zs := (iv .u8 (q ++ [IntKind.u8.wrap (shrV .u64 ((↑b.length : Int) * 8) (8 * i))]))) ((q ++ [IntKind.u8.wrap (shrV .u64 ((↑b.length : Int) * 8) (8 * i))]).length) (by kernel_rfl) rfl (Rd.of_ent H (k := 0) (off := 0) (n := 1) rfl (by rfl)) (by simp [iv]; try first | omega | (simp only [List.length_append, List.length_cons, List.length_nil, List.length_set, List.length_replicate, List.length_drop, List.length_take, iv_length, Nat.zero_add] at * <;> omega)) (by first | exact iv_flat _ _ | simp [Value.oneCell']) (by first | omega | (simp only [List.length_append, List.length_cons, List.length_nil, List.length_set, List.length_replicate, List.length_drop, List.length_take, iv_length, Nat.zero_add] at * <;> omega)) (by simp [iv]) (by first | omega | (simp only [List.length_append, List.length_cons, List.length_nil, List.length_set, List.length_replicate, List.length_drop, List.length_take, iv_length, Nat.zero_add] at * <;> omega)) (fun A22 c23 w24 H => ?_)
      dsimp only [List.set] at H
      refine wc_run (T' := [(3, .slice A22 ((q ++ [IntKind.u8.wrap (shrV .u64 ((↑b.length : Int) * 8) (8 * i))]).length) c23), (4, .int .u64 ((↑b.length : Int) * 8)), (5, .int .i64 i)]) (L2 := (rng 10 0)) 1 [3, 4, 5] (by kernel_rfl) ?_
      refine wc_nil rfl ?_
      refine n_blk ?_
      refine n_sq ?_
      refine wn_reg 3 (by kernel_rfl) ?_
      refine wc_run (T' := [(3, .slice A22 ((q ++ [IntKind.u8.wrap (shrV .u64 ((↑b.length : Int) * 8) (8 * i))]).length) c23), (4, .int .u64 ((↑b.length : Int) * 8)), (25, .int .i64 (IntKind.i64.wrap (i - 1)))]) (L2 := (rng 2 1)) 2 [3, 4, 25] (by kernel_rfl) ?_
      rw [wi64 (x := i - 1) (by first | omega | (simp only [List.length_append, List.length_cons, List.length_nil, List.length_set, List.length_replicate, List.length_drop, List.length_take, iv_length, Nat.zero_add] at * <;> omega)) (by first | omega | (simp only [List.length_append, List.length_cons, List.length_nil, List.length_set, List.length_replicate, List.length_drop, List.length_take, iv_length, Nat.zero_add] at * <;> omega))]
      refine wc_run (T' := [(3, .slice A22 ((q ++ [IntKind.u8.wrap (shrV .u64 ((↑b.length : Int) * 8) (8 * i))]).length) c23), (4, .int .u64 ((↑b.length : Int) * 8)), (5, .int .i64 (i - 1))]) (L2 := (rng 3 0)) 1 [3, 4, 5] (by kernel_rfl) ?_
      refine wc_nil rfl ?_
      refine round_end ((q ++ [IntKind.u8.wrap (shrV .u64 ((↑b.length : Int) * 8) (8 * i))]), i - 1, A22, c23) [3, 4, 5] (by kernel_rfl) ⟨H.sel [1, 2] (by decide) rfl, ?_⟩ ?_
      · obtain ⟨h1, h2, h4, h5⟩ := hi
        have e1 : (7 - (i - 1)).toNat = (7 - i).toNat + 1 := by omega
        have e2 : (7 - (((7 - i).toNat : Nat) : Int)) = i := by omega
        refine ⟨by omega, by omega, by simp only [List.length_append, List.length_cons, List.length_nil]; omega, ?_⟩
        rw [e1, itN, e8S, e2, h5]; simp
      · first | omega | (dsimp only; omega)
    · have hc19 := of_decide_eq_false hc19
      refine wn_exit 2 (by kernel_rfl) ?_
      refine e_sq ?_
      refine e_then ?_
      refine e_blk ?_
      refine n_sq ?_
      refine wn_seq (by kernel_rfl) ?_
      refine wn_reg 2 (by kernel_rfl) ?_
      refine wc_run (T' := [(2, .slice Aq q.length cq)]) (L2 := (rng 2 0)) 2 [2] (by kernel_rfl) ?_
      refine wc_nil rfl ?_
      refine n_sq ?_
      refine wn_ret (by kernel_rfl) ?_
      refine ret1 _ (Or.inr rfl) Try.results56 rfl ?_
      have he25 : (padF b) = q := by
        obtain ⟨h1, h2, h4, h5⟩ := hi
        have e : (7 - i).toNat = 8 := by omega
        rw [h5, e]; rfl
      exact ⟨Aq, cq, by first | (rw [he25]; done) | (rw [he25]; rfl), (by rw [he25]; exact H.sel [1] (by decide) rfl)⟩

noncomputable def cd_proctorref01_Copy : Code := (Try.f40.body).getD .skip
theorem proctorref01_Copy (w : World) (b : List Int) (A : Option Addr) (c : Nat) (hb : Rd w A (iv .u8 b)) (hn : b.length ≤ 140737488355000) :
    Calls Try.prog 40 #[.slice A b.length c] w (fun e w' => ∃ (A' : Option Addr), ∃ (c' : Nat), e = .returned (.slice A' b.length c') ∧ Hp no w w' [.sl A' b.length c' (iv .u8 b) 5 1]) := by
  refine enter (args := [_]) (c := cd_proctorref01_Copy) (N := 6) Try.func40 (by kernel_rfl) (by kernel_rfl) (by simp) ?_
  have H := Hp.start w
  refine wn_seq (by kernel_rfl) ?_
  refine wn_reg 1 (by kernel_rfl) ?_
  refine wc_run (T' := [(0, .slice A b.length c)]) (L2 := (rng 1 0)) 1 [0] (by kernel_rfl) ?_
  refine wc_nil rfl ?_
  refine n_sq ?_
  refine wn_seq (by kernel_rfl) ?_
  refine wn_reg 4 (by kernel_rfl) ?_
  refine wc_new H (some 3) (row [] 5) (fun r => .slice (some ⟨r, 0, none⟩) 0 0) (by kernel_rfl) (fun b1 w2 H => ?_)
  refine wc_run (T' := [(3, .slice (some ⟨b1, 0, none⟩) 0 0), (4, .slice A b.length c)]) (L2 := (rng 2 2)) 1 [3, 4] (by kernel_rfl) ?_
  replace H := H.toSl 0 0 1 (cs := (iv .u8 [])) (e := 5) rfl (by rfl) (by decide)
  dsimp only [List.set] at H
  refine wc_appN H 0 (some 5) (A := (some ⟨b1, 0, none⟩)) (n := 0) (c := 0) (B := A) (mm := b.length) (cc := c) (t := 50) (e := 5) 1 1 (xs := (iv .u8 [])) (ys := (iv .u8 b)) (zs := (iv .u8 b)) b.length (by kernel_rfl) rfl (hb.keep H.keep) (by simp [iv]; try first | omega | (simp only [List.length_append, List.length_cons, List.length_nil, List.length_set, List.length_replicate, List.length_drop, List.length_take, iv_length, Nat.zero_add] at * <;> omega)) (by first | exact iv_flat _ _ | simp [Value.oneCell']) (by first | omega | (simp only [List.length_append, List.length_cons, List.length_nil, List.length_set, List.length_replicate, List.length_drop, List.length_take, iv_length, Nat.zero_add] at * <;> omega)) (by simp [iv]) (by first | omega | (simp only [List.length_append, List.length_cons, List.length_nil, List.length_set, List.length_replicate, List.length_drop, List.length_take, iv_length, Nat.zero_add] at * <;> omega)) (fun A3 c4 w5 H => ?_)
  dsimp only [List.set] at H
  refine wc_run (T' := [(2, .slice A3 b.length c4)]) (L2 := (rng 4 0)) 1 [2] (by kernel_rfl) ?_
  refine wc_nil rfl ?_
  refine n_sq ?_
  refine wn_ret (by kernel_rfl) ?_
  refine ret1 _ (Or.inr rfl) Try.results40 rfl ?_
  exact ⟨A3, c4, rfl, H⟩
end Go.Proofs.Ytfeecdcanjkohaa
