/-
  Walks of some of this seat's functions: each call's answer, and what it leaves of memory. No condition beside those that stand in each theorem.
-/
import Derived.Test.YtfeecdcanjkohaaRows
import Derived.Test.YtfeecdcanjkohaaSa4
set_option linter.all false
namespace Go.Proofs.Ytfeecdcanjkohaa
open Go.RowKit Go.Px

theorem bxr_r (a b : Int) : 0 ≤ bxr .u32 a b ∧ bxr .u32 a b < 4294967296 := by
  show 0 ≤ IntKind.u32.wrap _ ∧ IntKind.u32.wrap _ < _
  rw [wrap32]; omega
theorem bor_r (a b : Int) : 0 ≤ bor .u32 a b ∧ bor .u32 a b < 4294967296 := by
  show 0 ≤ IntKind.u32.wrap _ ∧ IntKind.u32.wrap _ < _
  rw [wrap32]; omega
theorem bor_comm (a b : Int) : bor .u32 a b = bor .u32 b a := by
  show IntKind.u32.wrap _ = IntKind.u32.wrap _
  rw [BitVec.or_comm]
theorem bxr_zero {a : Int} (h : 0 ≤ a ∧ a < 4294967296) : bxr .u32 0 a = a := by
  have hu : bxr .u32 0 a = IntKind.u32.wrap ((BitVec.ofInt 32 0 ^^^ BitVec.ofInt 32 a).toNat : Int) := rfl
  rw [hu, wrap32, show BitVec.ofInt 32 0 = 0#32 from rfl, BitVec.zero_xor, BitVec.toNat_ofInt]
  omega
theorem rot_eq (x : Int) {n k : Int} (h1 : bnd .u64 (IntKind.u64.wrap (0 - n)) 31 = k) (h2 : IntKind.u64.wrap (32 - k) = n) (h3 : IntKind.u64.wrap (32 - n) = k) : rotl x (0 - n) = rotr x n := by
  unfold rotl rotr
  rw [h1, h2, h3, bor_comm]
theorem rotr_r (x n : Int) : 0 ≤ rotr x n ∧ rotr x n < 4294967296 := bor_r _ _
theorem tu_two (x : Int) {a b : Int} (ha : rotl x (0 - a) = rotr x a) (hb : rotl x (0 - b) = rotr x b) : turnS x [a, b] = bxr .u32 (rotr x a) (rotr x b) := by
  have : turnS x [a, b] = bxr .u32 (bxr .u32 0 (rotl x (0 - a))) (rotl x (0 - b)) := rfl
  rw [this, ha, hb, bxr_zero (rotr_r _ _)]
theorem tu_three (x : Int) {a b c : Int} (ha : rotl x (0 - a) = rotr x a) (hb : rotl x (0 - b) = rotr x b) (hc : rotl x (0 - c) = rotr x c) : turnS x [a, b, c] = bxr .u32 (bxr .u32 (rotr x a) (rotr x b)) (rotr x c) := by
  have : turnS x [a, b, c] = bxr .u32 (bxr .u32 (bxr .u32 0 (rotl x (0 - a))) (rotl x (0 - b))) (rotl x (0 - c)) := rfl
  rw [this, ha, hb, hc, bxr_zero (rotr_r _ _)]
theorem tu17 (x : Int) : turnS x [17, 19] = bxr .u32 (rotr x 17) (rotr x 19) := tu_two x (rot_eq x (k := 15) (by kernel_rfl) (by kernel_rfl) (by kernel_rfl)) (rot_eq x (k := 13) (by kernel_rfl) (by kernel_rfl) (by kernel_rfl))
theorem tu7 (x : Int) : turnS x [7, 18] = bxr .u32 (rotr x 7) (rotr x 18) := tu_two x (rot_eq x (k := 25) (by kernel_rfl) (by kernel_rfl) (by kernel_rfl)) (rot_eq x (k := 14) (by kernel_rfl) (by kernel_rfl) (by kernel_rfl))
theorem tu6 (x : Int) : turnS x [6, 11, 25] = bxr .u32 (bxr .u32 (rotr x 6) (rotr x 11)) (rotr x 25) := tu_three x (rot_eq x (k := 26) (by kernel_rfl) (by kernel_rfl) (by kernel_rfl)) (rot_eq x (k := 21) (by kernel_rfl) (by kernel_rfl) (by kernel_rfl)) (rot_eq x (k := 7) (by kernel_rfl) (by kernel_rfl) (by kernel_rfl))
theorem tu2 (x : Int) : turnS x [2, 13, 22] = bxr .u32 (bxr .u32 (rotr x 2) (rotr x 13)) (rotr x 22) := tu_three x (rot_eq x (k := 30) (by kernel_rfl) (by kernel_rfl) (by kernel_rfl)) (rot_eq x (k := 19) (by kernel_rfl) (by kernel_rfl) (by kernel_rfl)) (rot_eq x (k := 10) (by kernel_rfl) (by kernel_rfl) (by kernel_rfl))
theorem wr3 (a b c : Int) : IntKind.u32.wrap (IntKind.u32.wrap (a + b) + c) = IntKind.u32.wrap (a + IntKind.u32.wrap (b + c)) := by
  simp only [wrap32]; omega
def wbV (b : List Int) (t : Nat) : Int := bor .u32 (bor .u32 (bor .u32 (shlV .u32 (IntKind.u32.wrap (b.getD (4 * t) 0)) 24) (shlV .u32 (IntKind.u32.wrap (b.getD (4 * t + 1) 0)) 16)) (shlV .u32 (IntKind.u32.wrap (b.getD (4 * t + 2) 0)) 8)) (IntKind.u32.wrap (b.getD (4 * t + 3) 0))
def wbS (b : List Int) (t : Nat) (q : List Int) : List Int := q.set t (wbV b t)
theorem bor_add (k : Nat) {a b : Int} (h0 : 0 ≤ a) (h1 : a < 4294967296) (h2 : a % (2 ^ k : Nat) = 0) (h3 : 0 ≤ b) (h4 : b < (2 ^ k : Nat)) (h5 : a + b < 4294967296) : bor .u32 a b = a + b := by
  have hu : bor .u32 a b = IntKind.u32.wrap ((BitVec.ofInt 32 a ||| BitVec.ofInt 32 b).toNat : Int) := rfl
  rw [hu, wrap32, BitVec.toNat_or, BitVec.toNat_ofInt, BitVec.toNat_ofInt]
  have e1 : (a % ((2 ^ 32 : Nat) : Int)).toNat = a.toNat := by congr 1; omega
  have e2 : (b % ((2 ^ 32 : Nat) : Int)).toNat = b.toNat := by congr 1; omega
  rw [e1, e2]
  have hk : (0 : Int) < (2 ^ k : Nat) := by exact_mod_cast Nat.two_pow_pos k
  have e3 : a.toNat = 2 ^ k * (a.toNat / 2 ^ k) := by
    have : a.toNat % 2 ^ k = 0 := by
      have h := h2
      rw [← Int.toNat_of_nonneg h0] at h
      exact_mod_cast h
    have := Nat.div_add_mod a.toNat (2 ^ k)
    omega
  have e4 := Nat.two_pow_add_eq_or_of_lt (i := k) (b := b.toNat) (by omega) (a.toNat / 2 ^ k)
  rw [e3, ← e4, ← e3]
  omega
theorem shl32 (x : Int) (n : Nat) (hn : n < 32) : shlV .u32 x (n : Int) = x * (2 ^ n : Nat) % 4294967296 := by
  unfold shlV
  rw [wrap32]
  have : min (n : Int).toNat (IntKind.bits .u32) = n := by simp [IntKind.bits]; omega
  rw [this]
  simp
theorem four_bytes {a b c d : Int} (ha : 0 ≤ a ∧ a < 256) (hb : 0 ≤ b ∧ b < 256) (hc : 0 ≤ c ∧ c < 256) (hd : 0 ≤ d ∧ d < 256) :
    bor .u32 (shlV .u32 (bor .u32 (shlV .u32 (bor .u32 (shlV .u32 (bor .u32 (shlV .u32 0 8) (IntKind.u32.wrap a)) 8) (IntKind.u32.wrap b)) 8) (IntKind.u32.wrap c)) 8) (IntKind.u32.wrap d) =
    bor .u32 (bor .u32 (bor .u32 (shlV .u32 (IntKind.u32.wrap a) 24) (shlV .u32 (IntKind.u32.wrap b) 16)) (shlV .u32 (IntKind.u32.wrap c) 8)) (IntKind.u32.wrap d) := by
  have w : ∀ x : Int, 0 ≤ x ∧ x < 256 → IntKind.u32.wrap x = x := fun x h => by rw [wrap32]; omega
  have s8 : ∀ x : Int, shlV .u32 x 8 = x * 256 % 4294967296 := fun x => by have := shl32 x 8 (by decide); simpa using this
  have s16 : ∀ x : Int, shlV .u32 x 16 = x * 65536 % 4294967296 := fun x => by have := shl32 x 16 (by decide); simpa using this
  have s24 : ∀ x : Int, shlV .u32 x 24 = x * 16777216 % 4294967296 := fun x => by have := shl32 x 24 (by decide); simpa using this
  simp only [w a ha, w b hb, w c hc, w d hd, s8, s16, s24]
  have p8 : ((2 ^ 8 : Nat) : Int) = 256 := rfl
  have p16 : ((2 ^ 16 : Nat) : Int) = 65536 := rfl
  have p24 : ((2 ^ 24 : Nat) : Int) = 16777216 := rfl
  rw [bor_add 8 (a := 0 * 256 % 4294967296) (b := a) (by omega) (by omega) (by omega) (by omega) (by omega) (by omega)]
  rw [bor_add 8 (b := b) (by omega) (by omega) (by omega) (by omega) (by omega) (by omega)]
  rw [bor_add 8 (b := c) (by omega) (by omega) (by omega) (by omega) (by omega) (by omega)]
  rw [bor_add 8 (b := d) (by omega) (by omega) (by omega) (by omega) (by omega) (by omega)]
  rw [bor_add 24 (a := a * 16777216 % 4294967296) (b := b * 65536 % 4294967296) (by omega) (by omega) (by omega) (by omega) (by omega) (by omega)]
  rw [bor_add 16 (b := c * 256 % 4294967296) (by omega) (by omega) (by omega) (by omega) (by omega) (by omega)]
  rw [bor_add 8 (b := d) (by omega) (by omega) (by omega) (by omega) (by omega) (by omega)]
  omega
theorem itN_other {f : Nat → List Int → List Int} (hf : ∀ j q k, j ≠ k → (f j q).getD k 0 = q.getD k 0) : ∀ (n : Nat) (q : List Int) (k : Nat), n ≤ k → (itN f n q).getD k 0 = q.getD k 0
  | 0, q, k, _ => rfl
  | n + 1, q, k, h => by rw [itN, hf _ _ _ (by omega), itN_other hf n q k (by omega)]
theorem four_steps (b : List Int) (t : Nat) (ht : t < 64) (q : List Int) (hq : q.length = 64) (h0 : q.getD t 0 = 0) (hr : ∀ j, 0 ≤ b.getD j 0 ∧ b.getD j 0 < 256) :
    wd4S b (4 * t + 3) (wd4S b (4 * t + 2) (wd4S b (4 * t + 1) (wd4S b (4 * t) q))) = wbS b t q := by
  have e0 : (4 * t) / 4 = t := by omega
  have e1 : (4 * t + 1) / 4 = t := by omega
  have e2 : (4 * t + 2) / 4 = t := by omega
  have e3 : (4 * t + 3) / 4 = t := by omega
  have hl : t < q.length := by omega
  simp only [wd4S, wbS, e0, e1, e2, e3, List.set_set, getD_set_self _ hl, h0]
  rw [four_bytes (hr _) (hr _) (hr _) (hr _)]
  rfl
theorem spI_eq (b : List Int) (hr : ∀ j, 0 ≤ b.getD j 0 ∧ b.getD j 0 < 256) : ∀ n, n ≤ 16 → itN (wd4S b) (4 * n) (List.replicate 64 0) = itN (wbS b) n (List.replicate 64 0)
  | 0, _ => rfl
  | n + 1, h => by
    have ih := spI_eq b hr n (by omega)
    rw [show 4 * (n + 1) = 4 * n + 1 + 1 + 1 + 1 by omega]
    simp only [itN]
    rw [ih]
    refine four_steps b n (by omega) _ (itN_length (fun j q h => by simp [wbS, h]) _ _ (by simp)) ?_ hr
    rw [itN_other (fun j q k hjk => by simp only [wbS]; exact getD_set_other _ hjk) n _ n (Nat.le_refl _)]
    rw [List.getD_eq_getElem?_getD, List.getElem?_replicate]
    split <;> rfl

noncomputable def cd_proctorref01_block : Code := (Try.f57.body).getD .skip
theorem proctorref01_block (w : World) (hv : List Int) (b : List Int) (A : Option Addr) (c : Nat) (nb : Nat) (hh : hv.length = 8) (hb : Rd w A (iv .u8 b)) (hr : ∀ j, 0 ≤ b.getD j 0 ∧ b.getD j 0 < 256) (hbl : b.length = 64) (hnb : nb = 64) :
    Calls Try.prog 57 #[.agg (iv .u32 hv).toArray, .slice A nb c] w (fun e w' => e = .returned (.agg (iv .u32 (cmpF hv b)).toArray) ∧ Hp no w w' [] ∧ (cmpF hv b).length = 8) := by
  refine enter (args := [_, _]) (c := cd_proctorref01_block) (N := 205) Try.func57 (by kernel_rfl) (by kernel_rfl) (by simp) ?_
  have H := Hp.start w
  refine wn_seq (by kernel_rfl) ?_
  refine wn_reg 2 (by kernel_rfl) ?_
  refine wc_new H (some 2) (row (iv .u32 hv) 90) (fun r => .pointer (some ⟨r, 0, none⟩)) (by kernel_rfl) (fun b1 w2 H => ?_)
  refine wc_new H (some 4) (row (iv .u32 (List.replicate 8 0)) 90) (fun r => .pointer (some ⟨r, 0, none⟩)) (by kernel_rfl) (fun b3 w4 H => ?_)
  refine wc_nil rfl ?_
  refine n_sq ?_
  refine wn_seq (by kernel_rfl) ?_
  refine wn_reg 3 (by kernel_rfl) ?_
  refine wc_call (some 19) (by kernel_rfl) (proctorref01_kays w4) ?_
  rintro _ w5 ⟨rfl, H1, hf6⟩
  refine ⟨_, rfl, fun _ => H1.keep, ?_⟩
  replace H := H.call H1
  simp only [List.nil_append] at H
  refine wc_new H (some 5) (row (iv .u32 (List.replicate 64 0)) 88) (fun r => .pointer (some ⟨r, 0, none⟩)) (by kernel_rfl) (fun b7 w8 H => ?_)
  refine wc_st (b := b7) (off := 0) (Tb := 88) (vs := (iv .u32 K256)) (cs' := (iv .u32 K256)) H 0 88 (.agg (iv .u32 K256).toArray) 64 (by kernel_rfl) rfl rfl (by exact (iv_length .u32 K256).trans hf6) (by have h := (iv_length .u32 (List.replicate 64 0)).trans List.length_replicate; omega) (by exact iv_flat _ _) (by exact blit_all _ _ ((show (iv .u32 K256 : List Value).length = 64 from (iv_length .u32 K256).trans hf6).trans (show (iv .u32 (List.replicate 64 0) : List Value).length = 64 from (iv_length .u32 (List.replicate 64 0)).trans List.length_replicate).symm)) (fun w9 H => ?_)
  dsimp only [List.set] at H
  refine wc_nil rfl ?_
  refine n_sq ?_
  refine wn_seq (by kernel_rfl) ?_
  refine wn_reg 1 (by kernel_rfl) ?_
  refine wc_new H (some 6) (row (iv .u32 (List.replicate 64 0)) 88) (fun r => .pointer (some ⟨r, 0, none⟩)) (by kernel_rfl) (fun b10 w11 H => ?_)
  refine wc_nil rfl ?_
  refine n_sq ?_
  refine wn_seq (by kernel_rfl) ?_
  refine wn_seq (by kernel_rfl) ?_
  refine wn_reg 1 (by kernel_rfl) ?_
  refine wc_run (T' := [(1, .slice A nb c), (2, .pointer (some ⟨b1, 0, none⟩)), (4, .pointer (some ⟨b3, 0, none⟩)), (5, .pointer (some ⟨b7, 0, none⟩)), (6, .pointer (some ⟨b10, 0, none⟩)), (7, .int .i64 0)]) (L2 := (rng 1 0)) 1 [1, 2, 4, 5, 6, 7] (by kernel_rfl) ?_
  refine wc_nil rfl ?_
  refine n_sq ?_
  refine wn_block 0 (by kernel_rfl) ?_
  refine wn_loop (fun ((i, q) : Int × List Int) => [(1, .slice A nb c), (2, .pointer (some ⟨b1, 0, none⟩)), (4, .pointer (some ⟨b3, 0, none⟩)), (5, .pointer (some ⟨b7, 0, none⟩)), (6, .pointer (some ⟨b10, 0, none⟩)), (7, .int .i64 i)]) (fun ((i, q) : Int × List Int) w' => Hp no w w' [.bk b10 (row (iv .u32 q) 88), .bk b7 (row (iv .u32 K256) 88), .bk b3 (row (iv .u32 (List.replicate 8 0)) 90), .bk b1 (row (iv .u32 hv) 90)] ∧ 0 ≤ i ∧ i ≤ 16 ∧ q.length = 64 ∧ q = itN (wbS b) i.toNat (List.replicate 64 0)) (fun ((i, q) : Int × List Int) => (16 - i).toNat) ((0 : Int), (List.replicate 64 0)) [1, 2, 4, 5, 6, 7] (by kernel_rfl) rfl ⟨H, by simp [itN]⟩ ?_
  rintro ⟨i, q⟩ w12 ⟨H, hi⟩
  try dsimp only at H hi
  refine wn_pick (T' := [(1, .slice A nb c), (2, .pointer (some ⟨b1, 0, none⟩)), (4, .pointer (some ⟨b3, 0, none⟩)), (5, .pointer (some ⟨b7, 0, none⟩)), (6, .pointer (some ⟨b10, 0, none⟩)), (7, .int .i64 i)]) [1, 2, 4, 5, 6, 7] (by kernel_rfl) ?_
  refine wn_seq (by kernel_rfl) ?_
  refine wn_seq (by kernel_rfl) ?_
  refine wn_reg 2 (by kernel_rfl) ?_
  refine wc_run (T' := [(1, .slice A nb c), (2, .pointer (some ⟨b1, 0, none⟩)), (4, .pointer (some ⟨b3, 0, none⟩)), (5, .pointer (some ⟨b7, 0, none⟩)), (6, .pointer (some ⟨b10, 0, none⟩)), (7, .int .i64 i), (21, .bool (decide (i < (16 : Int))))]) (L2 := (rng 2 0)) 2 [1, 2, 4, 5, 6, 7, 21] (by kernel_rfl) ?_
  refine wc_nil rfl ?_
  refine n_sq ?_
  refine wn_cond (.tmp 21) (decide (i < (16 : Int))) (by kernel_rfl) rfl (fun hc13 => ?_) (fun hc13 => ?_)
  · have hc13 := of_decide_eq_true hc13
    refine wn_skip (by kernel_rfl) ?_
    refine n_sq ?_
    refine wn_seq (by kernel_rfl) ?_
    refine wn_block 1 (by kernel_rfl) ?_
    refine wn_regD [] (ol [0, 1, 2, 3, 4, 5, 6, 7, 8, 9, 10, 11, 12, 13, 14, 15, 16, 17, 18, 19, 20, 21, 22, 23, 24, 25, 26, 27, 28, 29, 30, 31, 32, 33, 34, 35]) (by kernel_rfl) H (fun w14 H => ?_)
    refine wc_run (T' := [(1, .slice A nb c), (2, .pointer (some ⟨b1, 0, none⟩)), (4, .pointer (some ⟨b3, 0, none⟩)), (5, .pointer (some ⟨b7, 0, none⟩)), (6, .pointer (some ⟨b10, 0, none⟩)), (7, .int .i64 i), (24, .int .i64 i), (25, .slice A nb c), (27, .int .i64 (IntKind.i64.wrap (4 * i)))]) (L2 := (ol [4, 5, 6, 7, 8, 9, 10, 11, 12, 13, 14, 15, 16, 17, 18, 19, 20, 21, 22, 23, 24, 25, 26, 27, 28, 29, 30, 31, 32, 33, 34, 35])) 4 [1, 2, 4, 5, 6, 7, 24, 25, 27] (by kernel_rfl) ?_
    rw [wi64 (x := 4 * i) (by first | omega | (simp only [List.length_append, List.length_cons, List.length_nil, List.length_set, List.length_replicate, List.length_drop, List.length_take, iv_length, Nat.zero_add] at * <;> omega)) (by first | omega | (simp only [List.length_append, List.length_cons, List.length_nil, List.length_set, List.length_replicate, List.length_drop, List.length_take, iv_length, Nat.zero_add] at * <;> omega))]
    refine wc_ixA (some 28) A nb 1 (4 * i) ((4 * i).toNat) (by kernel_rfl) (Rd.isSome (cs := (iv .u8 b)) (hb.keep H.keep) (by first | omega | (simp only [List.length_append, List.length_cons, List.length_nil, List.length_set, List.length_replicate, List.length_drop, List.length_take, iv_length, Nat.zero_add] at * <;> omega))) (by first | omega | (simp only [List.length_append, List.length_cons, List.length_nil, List.length_set, List.length_replicate, List.length_drop, List.length_take, iv_length, Nat.zero_add] at * <;> omega)) (by first | omega | (simp only [List.length_append, List.length_cons, List.length_nil, List.length_set, List.length_replicate, List.length_drop, List.length_take, iv_length, Nat.zero_add] at * <;> omega)) (by first | rfl | first | omega | (simp only [List.length_append, List.length_cons, List.length_nil, List.length_set, List.length_replicate, List.length_drop, List.length_take, iv_length, Nat.zero_add] at * <;> omega)) ?_
    refine wc_ldA (A := A) (cs := (iv .u8 b)) (hb.keep H.keep) (some 29) 5 ((4 * i).toNat) (.int .u8 (b.getD ((4 * i).toNat) 0)) (by kernel_rfl) (Or.inl ⟨by kernel_rfl, iv_get (by first | omega | (simp only [List.length_append, List.length_cons, List.length_nil, List.length_set, List.length_replicate, List.length_drop, List.length_take, iv_length, Nat.zero_add] at * <;> omega))⟩) ?_
    refine wc_run (T' := [(1, .slice A nb c), (2, .pointer (some ⟨b1, 0, none⟩)), (4, .pointer (some ⟨b3, 0, none⟩)), (5, .pointer (some ⟨b7, 0, none⟩)), (6, .pointer (some ⟨b10, 0, none⟩)), (7, .int .i64 i), (24, .int .i64 i), (31, .int .u32 (shlV .u32 (IntKind.u32.wrap (b.getD ((4 * i).toNat) 0)) 24)), (32, .slice A nb c), (34, .int .i64 (IntKind.i64.wrap (4 * i)))]) (L2 := (ol [11, 12, 13, 14, 15, 16, 17, 18, 19, 20, 21, 22, 23, 24, 25, 26, 27, 28, 29, 30, 31, 32, 33, 34, 35])) 5 [1, 2, 4, 5, 6, 7, 24, 31, 32, 34] (by kernel_rfl) ?_
    rw [wi64 (x := 4 * i) (by first | omega | (simp only [List.length_append, List.length_cons, List.length_nil, List.length_set, List.length_replicate, List.length_drop, List.length_take, iv_length, Nat.zero_add] at * <;> omega)) (by first | omega | (simp only [List.length_append, List.length_cons, List.length_nil, List.length_set, List.length_replicate, List.length_drop, List.length_take, iv_length, Nat.zero_add] at * <;> omega))]
    refine wc_run (T' := [(1, .slice A nb c), (2, .pointer (some ⟨b1, 0, none⟩)), (4, .pointer (some ⟨b3, 0, none⟩)), (5, .pointer (some ⟨b7, 0, none⟩)), (6, .pointer (some ⟨b10, 0, none⟩)), (7, .int .i64 i), (24, .int .i64 i), (31, .int .u32 (shlV .u32 (IntKind.u32.wrap (b.getD ((4 * i).toNat) 0)) 24)), (32, .slice A nb c), (35, .int .i64 (IntKind.i64.wrap ((4 * i) + 1)))]) (L2 := (ol [12, 13, 14, 15, 16, 17, 18, 19, 20, 21, 22, 23, 24, 25, 26, 27, 28, 29, 30, 31, 32, 33, 34, 35])) 1 [1, 2, 4, 5, 6, 7, 24, 31, 32, 35] (by kernel_rfl) ?_
    rw [wi64 (x := (4 * i) + 1) (by first | omega | (simp only [List.length_append, List.length_cons, List.length_nil, List.length_set, List.length_replicate, List.length_drop, List.length_take, iv_length, Nat.zero_add] at * <;> omega)) (by first | omega | (simp only [List.length_append, List.length_cons, List.length_nil, List.length_set, List.length_replicate, List.length_drop, List.length_take, iv_length, Nat.zero_add] at * <;> omega))]
    refine wc_ixA (some 36) A nb 1 ((4 * i) + 1) (((4 * i) + 1).toNat) (by kernel_rfl) (Rd.isSome (cs := (iv .u8 b)) (hb.keep H.keep) (by first | omega | (simp only [List.length_append, List.length_cons, List.length_nil, List.length_set, List.length_replicate, List.length_drop, List.length_take, iv_length, Nat.zero_add] at * <;> omega))) (by first | omega | (simp only [List.length_append, List.length_cons, List.length_nil, List.length_set, List.length_replicate, List.length_drop, List.length_take, iv_length, Nat.zero_add] at * <;> omega)) (by first | omega | (simp only [List.length_append, List.length_cons, List.length_nil, List.length_set, List.length_replicate, List.length_drop, List.length_take, iv_length, Nat.zero_add] at * <;> omega)) (by first | rfl | first | omega | (simp only [List.length_append, List.length_cons, List.length_nil, List.length_set, List.length_replicate, List.length_drop, List.length_take, iv_length, Nat.zero_add] at * <;> omega)) ?_
    refine wc_ldA (A := A) (cs := (iv .u8 b)) (hb.keep H.keep) (some 37) 5 (((4 * i) + 1).toNat) (.int .u8 (b.getD (((4 * i) + 1).toNat) 0)) (by kernel_rfl) (Or.inl ⟨by kernel_rfl, iv_get (by first | omega | (simp only [List.length_append, List.length_cons, List.length_nil, List.length_set, List.length_replicate, List.length_drop, List.length_take, iv_length, Nat.zero_add] at * <;> omega))⟩) ?_
    refine wc_run (T' := [(1, .slice A nb c), (2, .pointer (some ⟨b1, 0, none⟩)), (4, .pointer (some ⟨b3, 0, none⟩)), (5, .pointer (some ⟨b7, 0, none⟩)), (6, .pointer (some ⟨b10, 0, none⟩)), (7, .int .i64 i), (24, .int .i64 i), (40, .int .u32 (bor .u32 (shlV .u32 (IntKind.u32.wrap (b.getD ((4 * i).toNat) 0)) 24) (shlV .u32 (IntKind.u32.wrap (b.getD (((4 * i) + 1).toNat) 0)) 16))), (41, .slice A nb c), (43, .int .i64 (IntKind.i64.wrap (4 * i)))]) (L2 := (ol [20, 21, 22, 23, 24, 25, 26, 27, 28, 29, 30, 31, 32, 33, 34, 35])) 6 [1, 2, 4, 5, 6, 7, 24, 40, 41, 43] (by kernel_rfl) ?_
    rw [wi64 (x := 4 * i) (by first | omega | (simp only [List.length_append, List.length_cons, List.length_nil, List.length_set, List.length_replicate, List.length_drop, List.length_take, iv_length, Nat.zero_add] at * <;> omega)) (by first | omega | (simp only [List.length_append, List.length_cons, List.length_nil, List.length_set, List.length_replicate, List.length_drop, List.length_take, iv_length, Nat.zero_add] at * <;> omega))]
    refine wc_run (T' := [(1, .slice A nb c), (2, .pointer (some ⟨b1, 0, none⟩)), (4, .pointer (some ⟨b3, 0, none⟩)), (5, .pointer (some ⟨b7, 0, none⟩)), (6, .pointer (some ⟨b10, 0, none⟩)), (7, .int .i64 i), (24, .int .i64 i), (40, .int .u32 (bor .u32 (shlV .u32 (IntKind.u32.wrap (b.getD ((4 * i).toNat) 0)) 24) (shlV .u32 (IntKind.u32.wrap (b.getD (((4 * i) + 1).toNat) 0)) 16))), (41, .slice A nb c), (44, .int .i64 (IntKind.i64.wrap ((4 * i) + 2)))]) (L2 := (ol [21, 22, 23, 24, 25, 26, 27, 28, 29, 30, 31, 32, 33, 34, 35])) 1 [1, 2, 4, 5, 6, 7, 24, 40, 41, 44] (by kernel_rfl) ?_
    rw [wi64 (x := (4 * i) + 2) (by first | omega | (simp only [List.length_append, List.length_cons, List.length_nil, List.length_set, List.length_replicate, List.length_drop, List.length_take, iv_length, Nat.zero_add] at * <;> omega)) (by first | omega | (simp only [List.length_append, List.length_cons, List.length_nil, List.length_set, List.length_replicate, List.length_drop, List.length_take, iv_length, Nat.zero_add] at * <;> omega))]
    refine wc_ixA (some 45) A nb 1 ((4 * i) + 2) (((4 * i) + 2).toNat) (by kernel_rfl) (Rd.isSome (cs := (iv .u8 b)) (hb.keep H.keep) (by first | omega | (simp only [List.length_append, List.length_cons, List.length_nil, List.length_set, List.length_replicate, List.length_drop, List.length_take, iv_length, Nat.zero_add] at * <;> omega))) (by first | omega | (simp only [List.length_append, List.length_cons, List.length_nil, List.length_set, List.length_replicate, List.length_drop, List.length_take, iv_length, Nat.zero_add] at * <;> omega)) (by first | omega | (simp only [List.length_append, List.length_cons, List.length_nil, List.length_set, List.length_replicate, List.length_drop, List.length_take, iv_length, Nat.zero_add] at * <;> omega)) (by first | rfl | first | omega | (simp only [List.length_append, List.length_cons, List.length_nil, List.length_set, List.length_replicate, List.length_drop, List.length_take, iv_length, Nat.zero_add] at * <;> omega)) ?_
    refine wc_ldA (A := A) (cs := (iv .u8 b)) (hb.keep H.keep) (some 46) 5 (((4 * i) + 2).toNat) (.int .u8 (b.getD (((4 * i) + 2).toNat) 0)) (by kernel_rfl) (Or.inl ⟨by kernel_rfl, iv_get (by first | omega | (simp only [List.length_append, List.length_cons, List.length_nil, List.length_set, List.length_replicate, List.length_drop, List.length_take, iv_length, Nat.zero_add] at * <;> omega))⟩) ?_
    refine wc_run (T' := [(1, .slice A nb c), (2, .pointer (some ⟨b1, 0, none⟩)), (4, .pointer (some ⟨b3, 0, none⟩)), (5, .pointer (some ⟨b7, 0, none⟩)), (6, .pointer (some ⟨b10, 0, none⟩)), (7, .int .i64 i), (24, .int .i64 i), (49, .int .u32 (bor .u32 (bor .u32 (shlV .u32 (IntKind.u32.wrap (b.getD ((4 * i).toNat) 0)) 24) (shlV .u32 (IntKind.u32.wrap (b.getD (((4 * i) + 1).toNat) 0)) 16)) (shlV .u32 (IntKind.u32.wrap (b.getD (((4 * i) + 2).toNat) 0)) 8))), (50, .slice A nb c), (52, .int .i64 (IntKind.i64.wrap (4 * i)))]) (L2 := (ol [29, 30, 31, 32, 33, 34, 35])) 6 [1, 2, 4, 5, 6, 7, 24, 49, 50, 52] (by kernel_rfl) ?_
    rw [wi64 (x := 4 * i) (by first | omega | (simp only [List.length_append, List.length_cons, List.length_nil, List.length_set, List.length_replicate, List.length_drop, List.length_take, iv_length, Nat.zero_add] at * <;> omega)) (by first | omega | (simp only [List.length_append, List.length_cons, List.length_nil, List.length_set, List.length_replicate, List.length_drop, List.length_take, iv_length, Nat.zero_add] at * <;> omega))]
    refine wc_run (T' := [(1, .slice A nb c), (2, .pointer (some ⟨b1, 0, none⟩)), (4, .pointer (some ⟨b3, 0, none⟩)), (5, .pointer (some ⟨b7, 0, none⟩)), (6, .pointer (some ⟨b10, 0, none⟩)), (7, .int .i64 i), (24, .int .i64 i), (49, .int .u32 (bor .u32 (bor .u32 (shlV .u32 (IntKind.u32.wrap (b.getD ((4 * i).toNat) 0)) 24) (shlV .u32 (IntKind.u32.wrap (b.getD (((4 * i) + 1).toNat) 0)) 16)) (shlV .u32 (IntKind.u32.wrap (b.getD (((4 * i) + 2).toNat) 0)) 8))), (50, .slice A nb c), (53, .int .i64 (IntKind.i64.wrap ((4 * i) + 3)))]) (L2 := (ol [30, 31, 32, 33, 34, 35])) 1 [1, 2, 4, 5, 6, 7, 24, 49, 50, 53] (by kernel_rfl) ?_
    rw [wi64 (x := (4 * i) + 3) (by first | omega | (simp only [List.length_append, List.length_cons, List.length_nil, List.length_set, List.length_replicate, List.length_drop, List.length_take, iv_length, Nat.zero_add] at * <;> omega)) (by first | omega | (simp only [List.length_append, List.length_cons, List.length_nil, List.length_set, List.length_replicate, List.length_drop, List.length_take, iv_length, Nat.zero_add] at * <;> omega))]
    refine wc_ixA (some 54) A nb 1 ((4 * i) + 3) (((4 * i) + 3).toNat) (by kernel_rfl) (Rd.isSome (cs := (iv .u8 b)) (hb.keep H.keep) (by first | omega | (simp only [List.length_append, List.length_cons, List.length_nil, List.length_set, List.length_replicate, List.length_drop, List.length_take, iv_length, Nat.zero_add] at * <;> omega))) (by first | omega | (simp only [List.length_append, List.length_cons, List.length_nil, List.length_set, List.length_replicate, List.length_drop, List.length_take, iv_length, Nat.zero_add] at * <;> omega)) (by first | omega | (simp only [List.length_append, List.length_cons, List.length_nil, List.length_set, List.length_replicate, List.length_drop, List.length_take, iv_length, Nat.zero_add] at * <;> omega)) (by first | rfl | first | omega | (simp only [List.length_append, List.length_cons, List.length_nil, List.length_set, List.length_replicate, List.length_drop, List.length_take, iv_length, Nat.zero_add] at * <;> omega)) ?_
    refine wc_ldA (A := A) (cs := (iv .u8 b)) (hb.keep H.keep) (some 55) 5 (((4 * i) + 3).toNat) (.int .u8 (b.getD (((4 * i) + 3).toNat) 0)) (by kernel_rfl) (Or.inl ⟨by kernel_rfl, iv_get (by first | omega | (simp only [List.length_append, List.length_cons, List.length_nil, List.length_set, List.length_replicate, List.length_drop, List.length_take, iv_length, Nat.zero_add] at * <;> omega))⟩) ?_
    refine wc_run (T' := [(1, .slice A nb c), (2, .pointer (some ⟨b1, 0, none⟩)), (4, .pointer (some ⟨b3, 0, none⟩)), (5, .pointer (some ⟨b7, 0, none⟩)), (6, .pointer (some ⟨b10, 0, none⟩)), (7, .int .i64 i), (24, .int .i64 i), (57, .int .u32 (bor .u32 (bor .u32 (bor .u32 (shlV .u32 (IntKind.u32.wrap (b.getD ((4 * i).toNat) 0)) 24) (shlV .u32 (IntKind.u32.wrap (b.getD (((4 * i) + 1).toNat) 0)) 16)) (shlV .u32 (IntKind.u32.wrap (b.getD (((4 * i) + 2).toNat) 0)) 8)) (IntKind.u32.wrap (b.getD (((4 * i) + 3).toNat) 0))))]) (L2 := (ol [34, 35])) 2 [1, 2, 4, 5, 6, 7, 24, 57] (by kernel_rfl) ?_
    refine wc_ix (b := b10) (off := 0) (o' := i.toNat) (some 58) (some ⟨b10, 0, none⟩) 64 1 i (by kernel_rfl) rfl (by omega) (by omega) (by omega) ?_
    refine wc_st (b := b10) (off := i.toNat) (Tb := 88) (vs := ([.int .u32 (bor .u32 (bor .u32 (bor .u32 (shlV .u32 (IntKind.u32.wrap (b.getD ((4 * i).toNat) 0)) 24) (shlV .u32 (IntKind.u32.wrap (b.getD (((4 * i) + 1).toNat) 0)) 16)) (shlV .u32 (IntKind.u32.wrap (b.getD (((4 * i) + 2).toNat) 0)) 8)) (IntKind.u32.wrap (b.getD (((4 * i) + 3).toNat) 0)))])) (cs' := (iv .u32 (q.set i.toNat (bor .u32 (bor .u32 (bor .u32 (shlV .u32 (IntKind.u32.wrap (b.getD ((4 * i).toNat) 0)) 24) (shlV .u32 (IntKind.u32.wrap (b.getD (((4 * i) + 1).toNat) 0)) 16)) (shlV .u32 (IntKind.u32.wrap (b.getD (((4 * i) + 2).toNat) 0)) 8)) (IntKind.u32.wrap (b.getD (((4 * i) + 3).toNat) 0)))))) H 0 87 (.int .u32 (bor .u32 (bor .u32 (bor .u32 (shlV .u32 (IntKind.u32.wrap (b.getD ((4 * i).toNat) 0)) 24) (shlV .u32 (IntKind.u32.wrap (b.getD (((4 * i) + 1).toNat) 0)) 16)) (shlV .u32 (IntKind.u32.wrap (b.getD (((4 * i) + 2).toNat) 0)) 8)) (IntKind.u32.wrap (b.getD (((4 * i) + 3).toNat) 0)))) 1 (by kernel_rfl) rfl rfl (by rfl) (by first | (simp only [iv_length, List.length_set, List.length_replicate, *]; done) | (simp [iv_length, *]; done) | (simp [Value.cells, iv_length, *]; done) | omega | (simp [Value.cells, iv_length] <;> omega)) (by simp [Value.oneCell']) (by exact iv_set _ _ _ _ (by first | (simp only [iv_length, List.length_set, List.length_replicate, *]; done) | (simp [iv_length, *]; done) | (simp [Value.cells, iv_length, *]; done) | omega | (simp [Value.cells, iv_length] <;> omega))) (fun w15 H => ?_)
    dsimp only [List.set] at H
    refine wc_nil rfl ?_
    refine n_np ?_
    refine n_blk ?_
    refine n_sq ?_
    refine wn_reg 3 (by kernel_rfl) ?_
    refine wc_run (T' := [(1, .slice A nb c), (2, .pointer (some ⟨b1, 0, none⟩)), (4, .pointer (some ⟨b3, 0, none⟩)), (5, .pointer (some ⟨b7, 0, none⟩)), (6, .pointer (some ⟨b10, 0, none⟩)), (23, .int .i64 (IntKind.i64.wrap (i + 1)))]) (L2 := (rng 2 1)) 2 [1, 2, 4, 5, 6, 23] (by kernel_rfl) ?_
    rw [wi64 (x := i + 1) (by first | omega | (simp only [List.length_append, List.length_cons, List.length_nil, List.length_set, List.length_replicate, List.length_drop, List.length_take, iv_length, Nat.zero_add] at * <;> omega)) (by first | omega | (simp only [List.length_append, List.length_cons, List.length_nil, List.length_set, List.length_replicate, List.length_drop, List.length_take, iv_length, Nat.zero_add] at * <;> omega))]
    refine wc_run (T' := [(1, .slice A nb c), (2, .pointer (some ⟨b1, 0, none⟩)), (4, .pointer (some ⟨b3, 0, none⟩)), (5, .pointer (some ⟨b7, 0, none⟩)), (6, .pointer (some ⟨b10, 0, none⟩)), (7, .int .i64 (i + 1))]) (L2 := (rng 3 0)) 1 [1, 2, 4, 5, 6, 7] (by kernel_rfl) ?_
    refine wc_nil rfl ?_
    refine round_end (i + 1, q.set i.toNat (bor .u32 (bor .u32 (bor .u32 (shlV .u32 (IntKind.u32.wrap (b.getD ((4 * i).toNat) 0)) 24) (shlV .u32 (IntKind.u32.wrap (b.getD (((4 * i) + 1).toNat) 0)) 16)) (shlV .u32 (IntKind.u32.wrap (b.getD (((4 * i) + 2).toNat) 0)) 8)) (IntKind.u32.wrap (b.getD (((4 * i) + 3).toNat) 0)))) [1, 2, 4, 5, 6, 7] (by kernel_rfl) ⟨H, ?_⟩ ?_
    · obtain ⟨h1, h2, h3, h4⟩ := hi
      have e1 : (i + 1).toNat = i.toNat + 1 := by omega
      have e2 : (4 * i).toNat = 4 * i.toNat := by omega
      have e3 : (4 * i + 1).toNat = 4 * i.toNat + 1 := by omega
      have e4 : (4 * i + 2).toNat = 4 * i.toNat + 2 := by omega
      have e5 : (4 * i + 3).toNat = 4 * i.toNat + 3 := by omega
      refine ⟨by omega, by omega, by simp [h3], ?_⟩
      rw [e1, e2, e3, e4, e5, itN, wbS, wbV, ← h4]
    · first | omega | (dsimp only; omega)
  · have hc13 := of_decide_eq_false hc13
    refine wn_exit 0 (by kernel_rfl) ?_
    refine e_sq ?_
    refine e_then ?_
    refine e_blk ?_
    refine n_sq ?_
    refine wn_seq (by kernel_rfl) ?_
    refine wn_seq (by kernel_rfl) ?_
    refine wn_reg 1 (by kernel_rfl) ?_
    refine wc_run (T' := [(2, .pointer (some ⟨b1, 0, none⟩)), (4, .pointer (some ⟨b3, 0, none⟩)), (5, .pointer (some ⟨b7, 0, none⟩)), (6, .pointer (some ⟨b10, 0, none⟩)), (8, .int .i64 16)]) (L2 := (rng 1 0)) 1 [2, 4, 5, 6, 8] (by kernel_rfl) ?_
    refine wc_nil rfl ?_
    refine n_sq ?_
    refine wn_block 2 (by kernel_rfl) ?_
    obtain ⟨hv1, hv2, hv3, hv4⟩ := hi
    refine wn_loop (fun ((t, q) : Int × List Int) => [(2, .pointer (some ⟨b1, 0, none⟩)), (4, .pointer (some ⟨b3, 0, none⟩)), (5, .pointer (some ⟨b7, 0, none⟩)), (6, .pointer (some ⟨b10, 0, none⟩)), (8, .int .i64 t)]) (fun ((t, q) : Int × List Int) w' => Hp no w w' [.bk b10 (row (iv .u32 q) 88), .bk b7 (row (iv .u32 K256) 88), .bk b3 (row (iv .u32 (List.replicate 8 0)) 90), .bk b1 (row (iv .u32 hv) 90)] ∧ 16 ≤ t ∧ t ≤ 64 ∧ q.length = 64 ∧ q = itN spS (t.toNat - 16) (spI b)) (fun ((t, q) : Int × List Int) => (64 - t).toNat) ((16 : Int), q) [2, 4, 5, 6, 8] (by kernel_rfl) rfl ⟨H, by
  have e : i.toNat = 16 := by omega
  exact ⟨by omega, by omega, hv3, by rw [hv4, e, ← spI_eq b hr 16 (by omega)]; rfl⟩⟩ ?_
    rintro ⟨t, q⟩ w16 ⟨H, hi⟩
    try dsimp only at H hi
    refine wn_pick (T' := [(2, .pointer (some ⟨b1, 0, none⟩)), (4, .pointer (some ⟨b3, 0, none⟩)), (5, .pointer (some ⟨b7, 0, none⟩)), (6, .pointer (some ⟨b10, 0, none⟩)), (8, .int .i64 t)]) [2, 4, 5, 6, 8] (by kernel_rfl) ?_
    refine wn_seq (by kernel_rfl) ?_
    refine wn_seq (by kernel_rfl) ?_
    refine wn_reg 2 (by kernel_rfl) ?_
    refine wc_run (T' := [(2, .pointer (some ⟨b1, 0, none⟩)), (4, .pointer (some ⟨b3, 0, none⟩)), (5, .pointer (some ⟨b7, 0, none⟩)), (6, .pointer (some ⟨b10, 0, none⟩)), (8, .int .i64 t), (60, .bool (decide (t < (64 : Int))))]) (L2 := (rng 2 0)) 2 [2, 4, 5, 6, 8, 60] (by kernel_rfl) ?_
    refine wc_nil rfl ?_
    refine n_sq ?_
    refine wn_cond (.tmp 60) (decide (t < (64 : Int))) (by kernel_rfl) rfl (fun hc17 => ?_) (fun hc17 => ?_)
    · have hc17 := of_decide_eq_true hc17
      refine wn_skip (by kernel_rfl) ?_
      refine n_sq ?_
      refine wn_seq (by kernel_rfl) ?_
      refine wn_block 3 (by kernel_rfl) ?_
      refine wn_seq (by kernel_rfl) ?_
      refine wn_regD [] (ol [0, 1, 2, 3, 5, 6, 7, 8, 11, 12, 13, 14, 15, 4, 9, 10, 16, 17]) (by kernel_rfl) H (fun w18 H => ?_)
      refine wc_run (T' := [(2, .pointer (some ⟨b1, 0, none⟩)), (4, .pointer (some ⟨b3, 0, none⟩)), (5, .pointer (some ⟨b7, 0, none⟩)), (6, .pointer (some ⟨b10, 0, none⟩)), (8, .int .i64 t), (64, .int .i64 (IntKind.i64.wrap (t - 15)))]) (L2 := (ol [2, 3, 5, 6, 7, 8, 11, 12, 13, 14, 15, 4, 9, 10, 16, 17])) 2 [2, 4, 5, 6, 8, 64] (by kernel_rfl) ?_
      rw [wi64 (x := t - 15) (by first | omega | (simp only [List.length_append, List.length_cons, List.length_nil, List.length_set, List.length_replicate, List.length_drop, List.length_take, iv_length, Nat.zero_add] at * <;> omega)) (by first | omega | (simp only [List.length_append, List.length_cons, List.length_nil, List.length_set, List.length_replicate, List.length_drop, List.length_take, iv_length, Nat.zero_add] at * <;> omega))]
      refine wc_ix (b := b10) (off := 0) (o' := (t - 15).toNat) (some 65) (some ⟨b10, 0, none⟩) 64 1 (t - 15) (by kernel_rfl) rfl (by omega) (by omega) (by omega) ?_
      refine wc_ld (b := b10) (off := (t - 15).toNat) (some 66) 87 (.int .u32 (q.getD ((t - 15).toNat) 0)) (by kernel_rfl) (Ld.ent1 H 0 rfl (by kernel_rfl) (iv_get (by first | (simp only [iv_length, List.length_set, List.length_replicate, *]; done) | (simp [iv_length, *]; done) | (simp [Value.cells, iv_length, *]; done) | omega | (simp [Value.cells, iv_length] <;> omega)))) ?_
      refine wc_run (T' := [(2, .pointer (some ⟨b1, 0, none⟩)), (4, .pointer (some ⟨b3, 0, none⟩)), (5, .pointer (some ⟨b7, 0, none⟩)), (6, .pointer (some ⟨b10, 0, none⟩)), (8, .int .i64 t), (66, .int .u32 (q.getD ((t - 15).toNat) 0)), (69, .int .i64 (IntKind.i64.wrap (t - 15)))]) (L2 := (ol [7, 8, 11, 12, 13, 14, 15, 4, 9, 10, 16, 17])) 2 [2, 4, 5, 6, 8, 66, 69] (by kernel_rfl) ?_
      rw [wi64 (x := t - 15) (by first | omega | (simp only [List.length_append, List.length_cons, List.length_nil, List.length_set, List.length_replicate, List.length_drop, List.length_take, iv_length, Nat.zero_add] at * <;> omega)) (by first | omega | (simp only [List.length_append, List.length_cons, List.length_nil, List.length_set, List.length_replicate, List.length_drop, List.length_take, iv_length, Nat.zero_add] at * <;> omega))]
      refine wc_ix (b := b10) (off := 0) (o' := (t - 15).toNat) (some 70) (some ⟨b10, 0, none⟩) 64 1 (t - 15) (by kernel_rfl) rfl (by omega) (by omega) (by omega) ?_
      refine wc_ld (b := b10) (off := (t - 15).toNat) (some 71) 87 (.int .u32 (q.getD ((t - 15).toNat) 0)) (by kernel_rfl) (Ld.ent1 H 0 rfl (by kernel_rfl) (iv_get (by first | (simp only [iv_length, List.length_set, List.length_replicate, *]; done) | (simp [iv_length, *]; done) | (simp [Value.cells, iv_length, *]; done) | omega | (simp [Value.cells, iv_length] <;> omega)))) ?_
      refine wc_run (T' := [(2, .pointer (some ⟨b1, 0, none⟩)), (4, .pointer (some ⟨b3, 0, none⟩)), (5, .pointer (some ⟨b7, 0, none⟩)), (6, .pointer (some ⟨b10, 0, none⟩)), (8, .int .i64 t), (66, .int .u32 (q.getD ((t - 15).toNat) 0)), (71, .int .u32 (q.getD ((t - 15).toNat) 0)), (75, .int .i64 (IntKind.i64.wrap (t - 15)))]) (L2 := (ol [13, 14, 15, 4, 9, 10, 16, 17])) 2 [2, 4, 5, 6, 8, 66, 71, 75] (by kernel_rfl) ?_
      rw [wi64 (x := t - 15) (by first | omega | (simp only [List.length_append, List.length_cons, List.length_nil, List.length_set, List.length_replicate, List.length_drop, List.length_take, iv_length, Nat.zero_add] at * <;> omega)) (by first | omega | (simp only [List.length_append, List.length_cons, List.length_nil, List.length_set, List.length_replicate, List.length_drop, List.length_take, iv_length, Nat.zero_add] at * <;> omega))]
      refine wc_ix (b := b10) (off := 0) (o' := (t - 15).toNat) (some 76) (some ⟨b10, 0, none⟩) 64 1 (t - 15) (by kernel_rfl) rfl (by omega) (by omega) (by omega) ?_
      refine wc_ld (b := b10) (off := (t - 15).toNat) (some 77) 87 (.int .u32 (q.getD ((t - 15).toNat) 0)) (by kernel_rfl) (Ld.ent1 H 0 rfl (by kernel_rfl) (iv_get (by first | (simp only [iv_length, List.length_set, List.length_replicate, *]; done) | (simp [iv_length, *]; done) | (simp [Value.cells, iv_length, *]; done) | omega | (simp [Value.cells, iv_length] <;> omega)))) ?_
      refine wc_run (T' := [(2, .pointer (some ⟨b1, 0, none⟩)), (4, .pointer (some ⟨b3, 0, none⟩)), (5, .pointer (some ⟨b7, 0, none⟩)), (6, .pointer (some ⟨b10, 0, none⟩)), (8, .int .i64 t), (66, .int .u32 (q.getD ((t - 15).toNat) 0)), (71, .int .u32 (q.getD ((t - 15).toNat) 0)), (78, .int .u32 (shrV .u32 (q.getD ((t - 15).toNat) 0) 3))]) (L2 := (ol [4, 9, 10, 16, 17])) 1 [2, 4, 5, 6, 8, 66, 71, 78] (by kernel_rfl) ?_
      refine wc_call (some 67) (by kernel_rfl) (proctorref01_turn w18 (q.getD ((t - 15).toNat) 0) (7 : Int) (by first | with_reducible assumption | omega | (simp_all; done))) ?_
      rintro _ w19 ⟨rfl, H1⟩
      refine ⟨_, rfl, fun _ => H1.keep, ?_⟩
      replace H := H.call H1
      simp only [List.nil_append] at H
      refine wc_call (some 72) (by kernel_rfl) (proctorref01_turn w19 (q.getD ((t - 15).toNat) 0) (18 : Int) (by first | with_reducible assumption | omega | (simp_all; done))) ?_
      rintro _ w20 ⟨rfl, H1⟩
      refine ⟨_, rfl, fun _ => H1.keep, ?_⟩
      replace H := H.call H1
      simp only [List.nil_append] at H
      refine wc_run (T' := [(2, .pointer (some ⟨b1, 0, none⟩)), (4, .pointer (some ⟨b3, 0, none⟩)), (5, .pointer (some ⟨b7, 0, none⟩)), (6, .pointer (some ⟨b10, 0, none⟩)), (8, .int .i64 t), (9, .int .u32 (bxr .u32 (bxr .u32 (rotr (q.getD ((t - 15).toNat) 0) (7 : Int)) (rotr (q.getD ((t - 15).toNat) 0) (18 : Int))) (shrV .u32 (q.getD ((t - 15).toNat) 0) 3)))]) (L2 := (ol [])) 3 [2, 4, 5, 6, 8, 9] (by kernel_rfl) ?_
      refine wc_nil rfl ?_
      refine n_np ?_
      refine n_sq ?_
      refine wn_seq (by kernel_rfl) ?_
      refine wn_regD [] (ol [0, 1, 2, 3, 5, 6, 7, 8, 11, 12, 13, 14, 15, 4, 9, 10, 16, 17]) (by kernel_rfl) H (fun w21 H => ?_)
      refine wc_run (T' := [(2, .pointer (some ⟨b1, 0, none⟩)), (4, .pointer (some ⟨b3, 0, none⟩)), (5, .pointer (some ⟨b7, 0, none⟩)), (6, .pointer (some ⟨b10, 0, none⟩)), (8, .int .i64 t), (9, .int .u32 (bxr .u32 (bxr .u32 (rotr (q.getD ((t - 15).toNat) 0) (7 : Int)) (rotr (q.getD ((t - 15).toNat) 0) (18 : Int))) (shrV .u32 (q.getD ((t - 15).toNat) 0) 3))), (81, .int .i64 (IntKind.i64.wrap (t - 2)))]) (L2 := (ol [2, 3, 5, 6, 7, 8, 11, 12, 13, 14, 15, 4, 9, 10, 16, 17])) 2 [2, 4, 5, 6, 8, 9, 81] (by kernel_rfl) ?_
      rw [wi64 (x := t - 2) (by first | omega | (simp only [List.length_append, List.length_cons, List.length_nil, List.length_set, List.length_replicate, List.length_drop, List.length_take, iv_length, Nat.zero_add] at * <;> omega)) (by first | omega | (simp only [List.length_append, List.length_cons, List.length_nil, List.length_set, List.length_replicate, List.length_drop, List.length_take, iv_length, Nat.zero_add] at * <;> omega))]
      refine wc_ix (b := b10) (off := 0) (o' := (t - 2).toNat) (some 82) (some ⟨b10, 0, none⟩) 64 1 (t - 2) (by kernel_rfl) rfl (by omega) (by omega) (by omega) ?_
      refine wc_ld (b := b10) (off := (t - 2).toNat) (some 83) 87 (.int .u32 (q.getD ((t - 2).toNat) 0)) (by kernel_rfl) (Ld.ent1 H 0 rfl (by kernel_rfl) (iv_get (by first | (simp only [iv_length, List.length_set, List.length_replicate, *]; done) | (simp [iv_length, *]; done) | (simp [Value.cells, iv_length, *]; done) | omega | (simp [Value.cells, iv_length] <;> omega)))) ?_
      refine wc_run (T' := [(2, .pointer (some ⟨b1, 0, none⟩)), (4, .pointer (some ⟨b3, 0, none⟩)), (5, .pointer (some ⟨b7, 0, none⟩)), (6, .pointer (some ⟨b10, 0, none⟩)), (8, .int .i64 t), (9, .int .u32 (bxr .u32 (bxr .u32 (rotr (q.getD ((t - 15).toNat) 0) (7 : Int)) (rotr (q.getD ((t - 15).toNat) 0) (18 : Int))) (shrV .u32 (q.getD ((t - 15).toNat) 0) 3))), (83, .int .u32 (q.getD ((t - 2).toNat) 0)), (86, .int .i64 (IntKind.i64.wrap (t - 2)))]) (L2 := (ol [7, 8, 11, 12, 13, 14, 15, 4, 9, 10, 16, 17])) 2 [2, 4, 5, 6, 8, 9, 83, 86] (by kernel_rfl) ?_
      rw [wi64 (x := t - 2) (by first | omega | (simp only [List.length_append, List.length_cons, List.length_nil, List.length_set, List.length_replicate, List.length_drop, List.length_take, iv_length, Nat.zero_add] at * <;> omega)) (by first | omega | (simp only [List.length_append, List.length_cons, List.length_nil, List.length_set, List.length_replicate, List.length_drop, List.length_take, iv_length, Nat.zero_add] at * <;> omega))]
      refine wc_ix (b := b10) (off := 0) (o' := (t - 2).toNat) (some 87) (some ⟨b10, 0, none⟩) 64 1 (t - 2) (by kernel_rfl) rfl (by omega) (by omega) (by omega) ?_
      refine wc_ld (b := b10) (off := (t - 2).toNat) (some 88) 87 (.int .u32 (q.getD ((t - 2).toNat) 0)) (by kernel_rfl) (Ld.ent1 H 0 rfl (by kernel_rfl) (iv_get (by first | (simp only [iv_length, List.length_set, List.length_replicate, *]; done) | (simp [iv_length, *]; done) | (simp [Value.cells, iv_length, *]; done) | omega | (simp [Value.cells, iv_length] <;> omega)))) ?_
      refine wc_run (T' := [(2, .pointer (some ⟨b1, 0, none⟩)), (4, .pointer (some ⟨b3, 0, none⟩)), (5, .pointer (some ⟨b7, 0, none⟩)), (6, .pointer (some ⟨b10, 0, none⟩)), (8, .int .i64 t), (9, .int .u32 (bxr .u32 (bxr .u32 (rotr (q.getD ((t - 15).toNat) 0) (7 : Int)) (rotr (q.getD ((t - 15).toNat) 0) (18 : Int))) (shrV .u32 (q.getD ((t - 15).toNat) 0) 3))), (83, .int .u32 (q.getD ((t - 2).toNat) 0)), (88, .int .u32 (q.getD ((t - 2).toNat) 0)), (92, .int .i64 (IntKind.i64.wrap (t - 2)))]) (L2 := (ol [13, 14, 15, 4, 9, 10, 16, 17])) 2 [2, 4, 5, 6, 8, 9, 83, 88, 92] (by kernel_rfl) ?_
      rw [wi64 (x := t - 2) (by first | omega | (simp only [List.length_append, List.length_cons, List.length_nil, List.length_set, List.length_replicate, List.length_drop, List.length_take, iv_length, Nat.zero_add] at * <;> omega)) (by first | omega | (simp only [List.length_append, List.length_cons, List.length_nil, List.length_set, List.length_replicate, List.length_drop, List.length_take, iv_length, Nat.zero_add] at * <;> omega))]
      refine wc_ix (b := b10) (off := 0) (o' := (t - 2).toNat) (some 93) (some ⟨b10, 0, none⟩) 64 1 (t - 2) (by kernel_rfl) rfl (by omega) (by omega) (by omega) ?_
      refine wc_ld (b := b10) (off := (t - 2).toNat) (some 94) 87 (.int .u32 (q.getD ((t - 2).toNat) 0)) (by kernel_rfl) (Ld.ent1 H 0 rfl (by kernel_rfl) (iv_get (by first | (simp only [iv_length, List.length_set, List.length_replicate, *]; done) | (simp [iv_length, *]; done) | (simp [Value.cells, iv_length, *]; done) | omega | (simp [Value.cells, iv_length] <;> omega)))) ?_
      refine wc_run (T' := [(2, .pointer (some ⟨b1, 0, none⟩)), (4, .pointer (some ⟨b3, 0, none⟩)), (5, .pointer (some ⟨b7, 0, none⟩)), (6, .pointer (some ⟨b10, 0, none⟩)), (8, .int .i64 t), (9, .int .u32 (bxr .u32 (bxr .u32 (rotr (q.getD ((t - 15).toNat) 0) (7 : Int)) (rotr (q.getD ((t - 15).toNat) 0) (18 : Int))) (shrV .u32 (q.getD ((t - 15).toNat) 0) 3))), (83, .int .u32 (q.getD ((t - 2).toNat) 0)), (88, .int .u32 (q.getD ((t - 2).toNat) 0)), (95, .int .u32 (shrV .u32 (q.getD ((t - 2).toNat) 0) 10))]) (L2 := (ol [4, 9, 10, 16, 17])) 1 [2, 4, 5, 6, 8, 9, 83, 88, 95] (by kernel_rfl) ?_
      refine wc_call (some 84) (by kernel_rfl) (proctorref01_turn w21 (q.getD ((t - 2).toNat) 0) (17 : Int) (by first | with_reducible assumption | omega | (simp_all; done))) ?_
      rintro _ w22 ⟨rfl, H1⟩
      refine ⟨_, rfl, fun _ => H1.keep, ?_⟩
      replace H := H.call H1
      simp only [List.nil_append] at H
      refine wc_call (some 89) (by kernel_rfl) (proctorref01_turn w22 (q.getD ((t - 2).toNat) 0) (19 : Int) (by first | with_reducible assumption | omega | (simp_all; done))) ?_
      rintro _ w23 ⟨rfl, H1⟩
      refine ⟨_, rfl, fun _ => H1.keep, ?_⟩
      replace H := H.call H1
      simp only [List.nil_append] at H
      refine wc_run (T' := [(2, .pointer (some ⟨b1, 0, none⟩)), (4, .pointer (some ⟨b3, 0, none⟩)), (5, .pointer (some ⟨b7, 0, none⟩)), (6, .pointer (some ⟨b10, 0, none⟩)), (8, .int .i64 t), (9, .int .u32 (bxr .u32 (bxr .u32 (rotr (q.getD ((t - 15).toNat) 0) (7 : Int)) (rotr (q.getD ((t - 15).toNat) 0) (18 : Int))) (shrV .u32 (q.getD ((t - 15).toNat) 0) 3))), (10, .int .u32 (bxr .u32 (bxr .u32 (rotr (q.getD ((t - 2).toNat) 0) (17 : Int)) (rotr (q.getD ((t - 2).toNat) 0) (19 : Int))) (shrV .u32 (q.getD ((t - 2).toNat) 0) 10)))]) (L2 := (ol [])) 3 [2, 4, 5, 6, 8, 9, 10] (by kernel_rfl) ?_
      refine wc_nil rfl ?_
      refine n_np ?_
      refine n_sq ?_
      refine wn_regD [] (ol [0, 1, 2, 3, 4, 5, 6, 7, 8, 9, 10, 11, 12, 13, 14, 15]) (by kernel_rfl) H (fun w24 H => ?_)
      refine wc_run (T' := [(2, .pointer (some ⟨b1, 0, none⟩)), (4, .pointer (some ⟨b3, 0, none⟩)), (5, .pointer (some ⟨b7, 0, none⟩)), (6, .pointer (some ⟨b10, 0, none⟩)), (8, .int .i64 t), (9, .int .u32 (bxr .u32 (bxr .u32 (rotr (q.getD ((t - 15).toNat) 0) (7 : Int)) (rotr (q.getD ((t - 15).toNat) 0) (18 : Int))) (shrV .u32 (q.getD ((t - 15).toNat) 0) 3))), (97, .int .i64 t), (98, .int .u32 (bxr .u32 (bxr .u32 (rotr (q.getD ((t - 2).toNat) 0) (17 : Int)) (rotr (q.getD ((t - 2).toNat) 0) (19 : Int))) (shrV .u32 (q.getD ((t - 2).toNat) 0) 10))), (100, .int .i64 (IntKind.i64.wrap (t - 7)))]) (L2 := (ol [4, 5, 6, 7, 8, 9, 10, 11, 12, 13, 14, 15])) 4 [2, 4, 5, 6, 8, 9, 97, 98, 100] (by kernel_rfl) ?_
      rw [wi64 (x := t - 7) (by first | omega | (simp only [List.length_append, List.length_cons, List.length_nil, List.length_set, List.length_replicate, List.length_drop, List.length_take, iv_length, Nat.zero_add] at * <;> omega)) (by first | omega | (simp only [List.length_append, List.length_cons, List.length_nil, List.length_set, List.length_replicate, List.length_drop, List.length_take, iv_length, Nat.zero_add] at * <;> omega))]
      refine wc_ix (b := b10) (off := 0) (o' := (t - 7).toNat) (some 101) (some ⟨b10, 0, none⟩) 64 1 (t - 7) (by kernel_rfl) rfl (by omega) (by omega) (by omega) ?_
      refine wc_ld (b := b10) (off := (t - 7).toNat) (some 102) 87 (.int .u32 (q.getD ((t - 7).toNat) 0)) (by kernel_rfl) (Ld.ent1 H 0 rfl (by kernel_rfl) (iv_get (by first | (simp only [iv_length, List.length_set, List.length_replicate, *]; done) | (simp [iv_length, *]; done) | (simp [Value.cells, iv_length, *]; done) | omega | (simp [Value.cells, iv_length] <;> omega)))) ?_
      refine wc_run (T' := [(2, .pointer (some ⟨b1, 0, none⟩)), (4, .pointer (some ⟨b3, 0, none⟩)), (5, .pointer (some ⟨b7, 0, none⟩)), (6, .pointer (some ⟨b10, 0, none⟩)), (8, .int .i64 t), (97, .int .i64 t), (105, .int .u32 (IntKind.u32.wrap ((IntKind.u32.wrap ((bxr .u32 (bxr .u32 (rotr (q.getD ((t - 2).toNat) 0) (17 : Int)) (rotr (q.getD ((t - 2).toNat) 0) (19 : Int))) (shrV .u32 (q.getD ((t - 2).toNat) 0) 10)) + (q.getD ((t - 7).toNat) 0))) + (bxr .u32 (bxr .u32 (rotr (q.getD ((t - 15).toNat) 0) (7 : Int)) (rotr (q.getD ((t - 15).toNat) 0) (18 : Int))) (shrV .u32 (q.getD ((t - 15).toNat) 0) 3))))), (107, .int .i64 (IntKind.i64.wrap (t - 16)))]) (L2 := (ol [11, 12, 13, 14, 15])) 5 [2, 4, 5, 6, 8, 97, 105, 107] (by kernel_rfl) ?_
      rw [wi64 (x := t - 16) (by first | omega | (simp only [List.length_append, List.length_cons, List.length_nil, List.length_set, List.length_replicate, List.length_drop, List.length_take, iv_length, Nat.zero_add] at * <;> omega)) (by first | omega | (simp only [List.length_append, List.length_cons, List.length_nil, List.length_set, List.length_replicate, List.length_drop, List.length_take, iv_length, Nat.zero_add] at * <;> omega))]
      refine wc_ix (b := b10) (off := 0) (o' := (t - 16).toNat) (some 108) (some ⟨b10, 0, none⟩) 64 1 (t - 16) (by kernel_rfl) rfl (by omega) (by omega) (by omega) ?_
      refine wc_ld (b := b10) (off := (t - 16).toNat) (some 109) 87 (.int .u32 (q.getD ((t - 16).toNat) 0)) (by kernel_rfl) (Ld.ent1 H 0 rfl (by kernel_rfl) (iv_get (by first | (simp only [iv_length, List.length_set, List.length_replicate, *]; done) | (simp [iv_length, *]; done) | (simp [Value.cells, iv_length, *]; done) | omega | (simp [Value.cells, iv_length] <;> omega)))) ?_
      refine wc_run (T' := [(2, .pointer (some ⟨b1, 0, none⟩)), (4, .pointer (some ⟨b3, 0, none⟩)), (5, .pointer (some ⟨b7, 0, none⟩)), (6, .pointer (some ⟨b10, 0, none⟩)), (8, .int .i64 t), (97, .int .i64 t), (110, .int .u32 (IntKind.u32.wrap ((IntKind.u32.wrap ((IntKind.u32.wrap ((bxr .u32 (bxr .u32 (rotr (q.getD ((t - 2).toNat) 0) (17 : Int)) (rotr (q.getD ((t - 2).toNat) 0) (19 : Int))) (shrV .u32 (q.getD ((t - 2).toNat) 0) 10)) + (q.getD ((t - 7).toNat) 0))) + (bxr .u32 (bxr .u32 (rotr (q.getD ((t - 15).toNat) 0) (7 : Int)) (rotr (q.getD ((t - 15).toNat) 0) (18 : Int))) (shrV .u32 (q.getD ((t - 15).toNat) 0) 3)))) + (q.getD ((t - 16).toNat) 0))))]) (L2 := (ol [14, 15])) 1 [2, 4, 5, 6, 8, 97, 110] (by kernel_rfl) ?_
      refine wc_ix (b := b10) (off := 0) (o' := t.toNat) (some 111) (some ⟨b10, 0, none⟩) 64 1 t (by kernel_rfl) rfl (by omega) (by omega) (by omega) ?_
      refine wc_st (b := b10) (off := t.toNat) (Tb := 88) (vs := ([.int .u32 (IntKind.u32.wrap ((IntKind.u32.wrap ((IntKind.u32.wrap ((bxr .u32 (bxr .u32 (rotr (q.getD ((t - 2).toNat) 0) (17 : Int)) (rotr (q.getD ((t - 2).toNat) 0) (19 : Int))) (shrV .u32 (q.getD ((t - 2).toNat) 0) 10)) + (q.getD ((t - 7).toNat) 0))) + (bxr .u32 (bxr .u32 (rotr (q.getD ((t - 15).toNat) 0) (7 : Int)) (rotr (q.getD ((t - 15).toNat) 0) (18 : Int))) (shrV .u32 (q.getD ((t - 15).toNat) 0) 3)))) + (q.getD ((t - 16).toNat) 0)))])) (cs' := (iv .u32 (q.set t.toNat (IntKind.u32.wrap ((IntKind.u32.wrap ((IntKind.u32.wrap ((bxr .u32 (bxr .u32 (rotr (q.getD ((t - 2).toNat) 0) (17 : Int)) (rotr (q.getD ((t - 2).toNat) 0) (19 : Int))) (shrV .u32 (q.getD ((t - 2).toNat) 0) 10)) + (q.getD ((t - 7).toNat) 0))) + (bxr .u32 (bxr .u32 (rotr (q.getD ((t - 15).toNat) 0) (7 : Int)) (rotr (q.getD ((t - 15).toNat) 0) (18 : Int))) (shrV .u32 (q.getD ((t - 15).toNat) 0) 3)))) + (q.getD ((t - 16).toNat) 0)))))) H 0 87 (.int .u32 (IntKind.u32.wrap ((IntKind.u32.wrap ((IntKind.u32.wrap ((bxr .u32 (bxr .u32 (rotr (q.getD ((t - 2).toNat) 0) (17 : Int)) (rotr (q.getD ((t - 2).toNat) 0) (19 : Int))) (shrV .u32 (q.getD ((t - 2).toNat) 0) 10)) + (q.getD ((t - 7).toNat) 0))) + (bxr .u32 (bxr .u32 (rotr (q.getD ((t - 15).toNat) 0) (7 : Int)) (rotr (q.getD ((t - 15).toNat) 0) (18 : Int))) (shrV .u32 (q.getD ((t - 15).toNat) 0) 3)))) + (q.getD ((t - 16).toNat) 0)))) 1 (by kernel_rfl) rfl rfl (by rfl) (by first | (simp only [iv_length, List.length_set, List.length_replicate, *]; done) | (simp [iv_length, *]; done) | (simp [Value.cells, iv_length, *]; done) | omega | (simp [Value.cells, iv_length] <;> omega)) (by simp [Value.oneCell']) (by exact iv_set _ _ _ _ (by first | (simp only [iv_length, List.length_set, List.length_replicate, *]; done) | (simp [iv_length, *]; done) | (simp [Value.cells, iv_length, *]; done) | omega | (simp [Value.cells, iv_length] <;> omega))) (fun w25 H => ?_)
      dsimp only [List.set] at H
      refine wc_nil rfl ?_
      refine n_np ?_
      refine n_blk ?_
      refine n_sq ?_
      refine wn_reg 3 (by kernel_rfl) ?_
      refine wc_run (T' := [(2, .pointer (some ⟨b1, 0, none⟩)), (4, .pointer (some ⟨b3, 0, none⟩)), (5, .pointer (some ⟨b7, 0, none⟩)), (6, .pointer (some ⟨b10, 0, none⟩)), (62, .int .i64 (IntKind.i64.wrap (t + 1)))]) (L2 := (rng 2 1)) 2 [2, 4, 5, 6, 62] (by kernel_rfl) ?_
      rw [wi64 (x := t + 1) (by first | omega | (simp only [List.length_append, List.length_cons, List.length_nil, List.length_set, List.length_replicate, List.length_drop, List.length_take, iv_length, Nat.zero_add] at * <;> omega)) (by first | omega | (simp only [List.length_append, List.length_cons, List.length_nil, List.length_set, List.length_replicate, List.length_drop, List.length_take, iv_length, Nat.zero_add] at * <;> omega))]
      refine wc_run (T' := [(2, .pointer (some ⟨b1, 0, none⟩)), (4, .pointer (some ⟨b3, 0, none⟩)), (5, .pointer (some ⟨b7, 0, none⟩)), (6, .pointer (some ⟨b10, 0, none⟩)), (8, .int .i64 (t + 1))]) (L2 := (rng 3 0)) 1 [2, 4, 5, 6, 8] (by kernel_rfl) ?_
      refine wc_nil rfl ?_
      refine round_end (t + 1, q.set t.toNat (IntKind.u32.wrap ((IntKind.u32.wrap ((IntKind.u32.wrap ((bxr .u32 (bxr .u32 (rotr (q.getD ((t - 2).toNat) 0) (17 : Int)) (rotr (q.getD ((t - 2).toNat) 0) (19 : Int))) (shrV .u32 (q.getD ((t - 2).toNat) 0) 10)) + (q.getD ((t - 7).toNat) 0))) + (bxr .u32 (bxr .u32 (rotr (q.getD ((t - 15).toNat) 0) (7 : Int)) (rotr (q.getD ((t - 15).toNat) 0) (18 : Int))) (shrV .u32 (q.getD ((t - 15).toNat) 0) 3)))) + (q.getD ((t - 16).toNat) 0)))) [2, 4, 5, 6, 8] (by kernel_rfl) ⟨H, ?_⟩ ?_
      · obtain ⟨h1, h2, h3, h4⟩ := hi
        have e1 : (t + 1).toNat - 16 = (t.toNat - 16) + 1 := by omega
        have e2 : t.toNat - 16 + 16 = t.toNat := by omega
        have e3 : (t - 2).toNat = t.toNat - 2 := by omega
        have e4 : (t - 15).toNat = t.toNat - 15 := by omega
        have e5 : (t - 7).toNat = t.toNat - 7 := by omega
        have e6 : (t - 16).toNat = t.toNat - 16 := by omega
        refine ⟨by omega, by omega, by simp [h3], ?_⟩
        rw [e1, itN, spS, spV, e2, e3, e4, e5, e6, tu17, tu7, ← h4]
      · first | omega | (dsimp only; omega)
    · have hc17 := of_decide_eq_false hc17
      refine wn_exit 2 (by kernel_rfl) ?_
      refine e_sq ?_
      refine e_then ?_
      refine e_blk ?_
      refine n_sq ?_
      refine wn_seq (by kernel_rfl) ?_
      refine wn_reg 3 (by kernel_rfl) ?_
      refine wc_ld (b := b1) (off := 0) (some 112) 90 (.agg (iv .u32 hv).toArray) (by kernel_rfl) (Ld.entW H 3 (n := 8) rfl (by kernel_rfl) (by exact (iv_length .u32 hv).trans hh)) ?_
      refine wc_new H (some 11) (row (iv .u32 (List.replicate 8 0)) 90) (fun r => .pointer (some ⟨r, 0, none⟩)) (by kernel_rfl) (fun b26 w27 H => ?_)
      refine wc_st (b := b26) (off := 0) (Tb := 90) (vs := (iv .u32 hv)) (cs' := (iv .u32 hv)) H 0 90 (.agg (iv .u32 hv).toArray) 8 (by kernel_rfl) rfl rfl (by exact (iv_length .u32 hv).trans hh) (by have h := (iv_length .u32 (List.replicate 8 0)).trans List.length_replicate; omega) (by exact iv_flat _ _) (by exact blit_all _ _ ((show (iv .u32 hv : List Value).length = 8 from (iv_length .u32 hv).trans hh).trans (show (iv .u32 (List.replicate 8 0) : List Value).length = 8 from (iv_length .u32 (List.replicate 8 0)).trans List.length_replicate).symm)) (fun w28 H => ?_)
      dsimp only [List.set] at H
      refine wc_nil rfl ?_
      refine n_sq ?_
      refine wn_seq (by kernel_rfl) ?_
      refine wn_seq (by kernel_rfl) ?_
      refine wn_reg 1 (by kernel_rfl) ?_
      refine wc_run (T' := [(2, .pointer (some ⟨b1, 0, none⟩)), (4, .pointer (some ⟨b3, 0, none⟩)), (5, .pointer (some ⟨b7, 0, none⟩)), (6, .pointer (some ⟨b10, 0, none⟩)), (11, .pointer (some ⟨b26, 0, none⟩)), (12, .int .i64 0)]) (L2 := (rng 1 0)) 1 [2, 4, 5, 6, 11, 12] (by kernel_rfl) ?_
      refine wc_nil rfl ?_
      refine n_sq ?_
      refine wn_block 4 (by kernel_rfl) ?_
      obtain ⟨hw1, hw2, hw3, hw4⟩ := hi
      have hw5 : q = spF b := by rw [hw4, show t.toNat - 16 = 48 by omega]; rfl
      refine wn_loop (fun ((k, s) : Int × List Int) => [(2, .pointer (some ⟨b1, 0, none⟩)), (4, .pointer (some ⟨b3, 0, none⟩)), (5, .pointer (some ⟨b7, 0, none⟩)), (6, .pointer (some ⟨b10, 0, none⟩)), (11, .pointer (some ⟨b26, 0, none⟩)), (12, .int .i64 k)]) (fun ((k, s) : Int × List Int) w' => Hp no w w' [.bk b26 (row (iv .u32 s) 90), .bk b10 (row (iv .u32 q) 88), .bk b7 (row (iv .u32 K256) 88), .bk b3 (row (iv .u32 (List.replicate 8 0)) 90), .bk b1 (row (iv .u32 hv) 90)] ∧ 0 ≤ k ∧ k ≤ 64 ∧ s.length = 8 ∧ s = itN (rnS (spF b)) k.toNat hv) (fun ((k, s) : Int × List Int) => (64 - k).toNat) ((0 : Int), hv) [2, 4, 5, 6, 11, 12] (by kernel_rfl) rfl ⟨H, by simp [itN, hh]⟩ ?_
      rintro ⟨k, s⟩ w29 ⟨H, hi⟩
      try dsimp only at H hi
      refine wn_pick (T' := [(2, .pointer (some ⟨b1, 0, none⟩)), (4, .pointer (some ⟨b3, 0, none⟩)), (5, .pointer (some ⟨b7, 0, none⟩)), (6, .pointer (some ⟨b10, 0, none⟩)), (11, .pointer (some ⟨b26, 0, none⟩)), (12, .int .i64 k)]) [2, 4, 5, 6, 11, 12] (by kernel_rfl) ?_
      refine wn_seq (by kernel_rfl) ?_
      refine wn_seq (by kernel_rfl) ?_
      refine wn_reg 2 (by kernel_rfl) ?_
      refine wc_run (T' := [(2, .pointer (some ⟨b1, 0, none⟩)), (4, .pointer (some ⟨b3, 0, none⟩)), (5, .pointer (some ⟨b7, 0, none⟩)), (6, .pointer (some ⟨b10, 0, none⟩)), (11, .pointer (some ⟨b26, 0, none⟩)), (12, .int .i64 k), (114, .bool (decide (k < (64 : Int))))]) (L2 := (rng 2 0)) 2 [2, 4, 5, 6, 11, 12, 114] (by kernel_rfl) ?_
      refine wc_nil rfl ?_
      refine n_sq ?_
      refine wn_cond (.tmp 114) (decide (k < (64 : Int))) (by kernel_rfl) rfl (fun hc30 => ?_) (fun hc30 => ?_)
      · have hc30 := of_decide_eq_true hc30
        refine wn_skip (by kernel_rfl) ?_
        refine n_sq ?_
        refine wn_seq (by kernel_rfl) ?_
        refine wn_block 5 (by kernel_rfl) ?_
        refine wn_seq (by kernel_rfl) ?_
        refine wn_regD [] (ol [0, 1, 2, 3, 4, 5, 6, 7, 8]) (by kernel_rfl) H (fun w31 H => ?_)
        refine wc_run (T' := [(2, .pointer (some ⟨b1, 0, none⟩)), (4, .pointer (some ⟨b3, 0, none⟩)), (5, .pointer (some ⟨b7, 0, none⟩)), (6, .pointer (some ⟨b10, 0, none⟩)), (11, .pointer (some ⟨b26, 0, none⟩)), (12, .int .i64 k), (117, .pointer (some ⟨b26, 0, none⟩))]) (L2 := (ol [1, 2, 3, 4, 5, 6, 7, 8])) 1 [2, 4, 5, 6, 11, 12, 117] (by kernel_rfl) ?_
        refine wc_ld (b := b26) (off := 0) (some 118) 87 (.int .u32 (s.getD 0 0)) (by kernel_rfl) (Ld.ent1 H 0 rfl (by kernel_rfl) (iv_get (by first | (simp only [iv_length, List.length_set, List.length_replicate, *]; done) | (simp [iv_length, *]; done) | (simp [Value.cells, iv_length, *]; done) | omega | (simp [Value.cells, iv_length] <;> omega)))) ?_
        refine wc_run (T' := [(2, .pointer (some ⟨b1, 0, none⟩)), (4, .pointer (some ⟨b3, 0, none⟩)), (5, .pointer (some ⟨b7, 0, none⟩)), (6, .pointer (some ⟨b10, 0, none⟩)), (11, .pointer (some ⟨b26, 0, none⟩)), (12, .int .i64 k), (118, .int .u32 (s.getD 0 0)), (119, .pointer (some ⟨b26, 2, none⟩))]) (L2 := (ol [3, 4, 5, 6, 7, 8])) 1 [2, 4, 5, 6, 11, 12, 118, 119] (by kernel_rfl) ?_
        refine wc_ld (b := b26) (off := 2) (some 120) 87 (.int .u32 (s.getD 2 0)) (by kernel_rfl) (Ld.ent1 H 0 rfl (by kernel_rfl) (iv_get (by first | (simp only [iv_length, List.length_set, List.length_replicate, *]; done) | (simp [iv_length, *]; done) | (simp [Value.cells, iv_length, *]; done) | omega | (simp [Value.cells, iv_length] <;> omega)))) ?_
        refine wc_run (T' := [(2, .pointer (some ⟨b1, 0, none⟩)), (4, .pointer (some ⟨b3, 0, none⟩)), (5, .pointer (some ⟨b7, 0, none⟩)), (6, .pointer (some ⟨b10, 0, none⟩)), (11, .pointer (some ⟨b26, 0, none⟩)), (12, .int .i64 k), (118, .int .u32 (s.getD 0 0)), (120, .int .u32 (s.getD 2 0)), (121, .pointer (some ⟨b26, 4, none⟩))]) (L2 := (ol [5, 6, 7, 8])) 1 [2, 4, 5, 6, 11, 12, 118, 120, 121] (by kernel_rfl) ?_
        refine wc_ld (b := b26) (off := 4) (some 122) 87 (.int .u32 (s.getD 4 0)) (by kernel_rfl) (Ld.ent1 H 0 rfl (by kernel_rfl) (iv_get (by first | (simp only [iv_length, List.length_set, List.length_replicate, *]; done) | (simp [iv_length, *]; done) | (simp [Value.cells, iv_length, *]; done) | omega | (simp [Value.cells, iv_length] <;> omega)))) ?_
        refine wc_run (T' := [(2, .pointer (some ⟨b1, 0, none⟩)), (4, .pointer (some ⟨b3, 0, none⟩)), (5, .pointer (some ⟨b7, 0, none⟩)), (6, .pointer (some ⟨b10, 0, none⟩)), (11, .pointer (some ⟨b26, 0, none⟩)), (12, .int .i64 k), (13, .int .u32 (s.getD 0 0)), (14, .int .u32 (s.getD 2 0)), (15, .int .u32 (s.getD 4 0))]) (L2 := (ol [])) 3 [2, 4, 5, 6, 11, 12, 13, 14, 15] (by kernel_rfl) ?_
        refine wc_nil rfl ?_
        refine n_np ?_
        refine n_sq ?_
        refine wn_seq (by kernel_rfl) ?_
        refine wn_regD [] (ol [0, 1, 2, 4, 7, 11, 12, 13, 14, 15, 16, 17, 18, 19, 20, 22, 23, 24, 26, 27, 28, 3, 5, 6, 8, 9, 10, 21, 25, 29, 30]) (by kernel_rfl) H (fun w32 H => ?_)
        refine wc_run (T' := [(2, .pointer (some ⟨b1, 0, none⟩)), (4, .pointer (some ⟨b3, 0, none⟩)), (5, .pointer (some ⟨b7, 0, none⟩)), (6, .pointer (some ⟨b10, 0, none⟩)), (11, .pointer (some ⟨b26, 0, none⟩)), (12, .int .i64 k), (13, .int .u32 (s.getD 0 0)), (14, .int .u32 (s.getD 2 0)), (15, .int .u32 (s.getD 4 0)), (123, .pointer (some ⟨b26, 7, none⟩))]) (L2 := (ol [1, 2, 4, 7, 11, 12, 13, 14, 15, 16, 17, 18, 19, 20, 22, 23, 24, 26, 27, 28, 3, 5, 6, 8, 9, 10, 21, 25, 29, 30])) 1 [2, 4, 5, 6, 11, 12, 13, 14, 15, 123] (by kernel_rfl) ?_
        refine wc_ld (b := b26) (off := 7) (some 124) 87 (.int .u32 (s.getD 7 0)) (by kernel_rfl) (Ld.ent1 H 0 rfl (by kernel_rfl) (iv_get (by first | (simp only [iv_length, List.length_set, List.length_replicate, *]; done) | (simp [iv_length, *]; done) | (simp [Value.cells, iv_length, *]; done) | omega | (simp [Value.cells, iv_length] <;> omega)))) ?_
        refine wc_run (T' := [(2, .pointer (some ⟨b1, 0, none⟩)), (4, .pointer (some ⟨b3, 0, none⟩)), (5, .pointer (some ⟨b7, 0, none⟩)), (6, .pointer (some ⟨b10, 0, none⟩)), (11, .pointer (some ⟨b26, 0, none⟩)), (12, .int .i64 k), (13, .int .u32 (s.getD 0 0)), (14, .int .u32 (s.getD 2 0)), (15, .int .u32 (s.getD 4 0)), (124, .int .u32 (s.getD 7 0)), (125, .int .u32 (s.getD 4 0)), (127, .int .u32 (s.getD 4 0)), (130, .int .u32 (s.getD 4 0)), (134, .int .u32 (s.getD 4 0)), (135, .pointer (some ⟨b26, 5, none⟩))]) (L2 := (ol [13, 14, 15, 16, 17, 18, 19, 20, 22, 23, 24, 26, 27, 28, 3, 5, 6, 8, 9, 10, 21, 25, 29, 30])) 5 [2, 4, 5, 6, 11, 12, 13, 14, 15, 124, 125, 127, 130, 134, 135] (by kernel_rfl) ?_
        refine wc_ld (b := b26) (off := 5) (some 136) 87 (.int .u32 (s.getD 5 0)) (by kernel_rfl) (Ld.ent1 H 0 rfl (by kernel_rfl) (iv_get (by first | (simp only [iv_length, List.length_set, List.length_replicate, *]; done) | (simp [iv_length, *]; done) | (simp [Value.cells, iv_length, *]; done) | omega | (simp [Value.cells, iv_length] <;> omega)))) ?_
        refine wc_run (T' := [(2, .pointer (some ⟨b1, 0, none⟩)), (4, .pointer (some ⟨b3, 0, none⟩)), (5, .pointer (some ⟨b7, 0, none⟩)), (6, .pointer (some ⟨b10, 0, none⟩)), (11, .pointer (some ⟨b26, 0, none⟩)), (12, .int .i64 k), (13, .int .u32 (s.getD 0 0)), (14, .int .u32 (s.getD 2 0)), (15, .int .u32 (s.getD 4 0)), (124, .int .u32 (s.getD 7 0)), (125, .int .u32 (s.getD 4 0)), (127, .int .u32 (s.getD 4 0)), (130, .int .u32 (s.getD 4 0)), (137, .int .u32 (bnd .u32 (s.getD 4 0) (s.getD 5 0))), (139, .int .u32 (bxr .u32 4294967295 (s.getD 4 0))), (140, .pointer (some ⟨b26, 6, none⟩))]) (L2 := (ol [18, 19, 20, 22, 23, 24, 26, 27, 28, 3, 5, 6, 8, 9, 10, 21, 25, 29, 30])) 4 [2, 4, 5, 6, 11, 12, 13, 14, 15, 124, 125, 127, 130, 137, 139, 140] (by kernel_rfl) ?_
        refine wc_ld (b := b26) (off := 6) (some 141) 87 (.int .u32 (s.getD 6 0)) (by kernel_rfl) (Ld.ent1 H 0 rfl (by kernel_rfl) (iv_get (by first | (simp only [iv_length, List.length_set, List.length_replicate, *]; done) | (simp [iv_length, *]; done) | (simp [Value.cells, iv_length, *]; done) | omega | (simp [Value.cells, iv_length] <;> omega)))) ?_
        refine wc_run (T' := [(2, .pointer (some ⟨b1, 0, none⟩)), (4, .pointer (some ⟨b3, 0, none⟩)), (5, .pointer (some ⟨b7, 0, none⟩)), (6, .pointer (some ⟨b10, 0, none⟩)), (11, .pointer (some ⟨b26, 0, none⟩)), (12, .int .i64 k), (13, .int .u32 (s.getD 0 0)), (14, .int .u32 (s.getD 2 0)), (15, .int .u32 (s.getD 4 0)), (124, .int .u32 (s.getD 7 0)), (125, .int .u32 (s.getD 4 0)), (127, .int .u32 (s.getD 4 0)), (130, .int .u32 (s.getD 4 0)), (143, .int .u32 (bxr .u32 (bnd .u32 (s.getD 4 0) (s.getD 5 0)) (bnd .u32 (bxr .u32 4294967295 (s.getD 4 0)) (s.getD 6 0)))), (145, .int .i64 k)]) (L2 := (ol [23, 24, 26, 27, 28, 3, 5, 6, 8, 9, 10, 21, 25, 29, 30])) 3 [2, 4, 5, 6, 11, 12, 13, 14, 15, 124, 125, 127, 130, 143, 145] (by kernel_rfl) ?_
        refine wc_ix (b := b7) (off := 0) (o' := k.toNat) (some 146) (some ⟨b7, 0, none⟩) 64 1 k (by kernel_rfl) rfl (by omega) (by omega) (by omega) ?_
        refine wc_ld (b := b7) (off := k.toNat) (some 147) 87 (.int .u32 (K256.getD k.toNat 0)) (by kernel_rfl) (Ld.ent1 H 2 rfl (by kernel_rfl) (iv_get (by have h : K256.length = _ := hf6; omega))) ?_
        refine wc_run (T' := [(2, .pointer (some ⟨b1, 0, none⟩)), (4, .pointer (some ⟨b3, 0, none⟩)), (5, .pointer (some ⟨b7, 0, none⟩)), (6, .pointer (some ⟨b10, 0, none⟩)), (11, .pointer (some ⟨b26, 0, none⟩)), (12, .int .i64 k), (13, .int .u32 (s.getD 0 0)), (14, .int .u32 (s.getD 2 0)), (15, .int .u32 (s.getD 4 0)), (124, .int .u32 (s.getD 7 0)), (125, .int .u32 (s.getD 4 0)), (127, .int .u32 (s.getD 4 0)), (130, .int .u32 (s.getD 4 0)), (143, .int .u32 (bxr .u32 (bnd .u32 (s.getD 4 0) (s.getD 5 0)) (bnd .u32 (bxr .u32 4294967295 (s.getD 4 0)) (s.getD 6 0)))), (147, .int .u32 (K256.getD k.toNat 0)), (149, .int .i64 k)]) (L2 := (ol [27, 28, 3, 5, 6, 8, 9, 10, 21, 25, 29, 30])) 1 [2, 4, 5, 6, 11, 12, 13, 14, 15, 124, 125, 127, 130, 143, 147, 149] (by kernel_rfl) ?_
        refine wc_ix (b := b10) (off := 0) (o' := k.toNat) (some 150) (some ⟨b10, 0, none⟩) 64 1 k (by kernel_rfl) rfl (by omega) (by omega) (by omega) ?_
        refine wc_ld (b := b10) (off := k.toNat) (some 151) 87 (.int .u32 (q.getD k.toNat 0)) (by kernel_rfl) (Ld.ent1 H 1 rfl (by kernel_rfl) (iv_get (by first | (simp only [iv_length, List.length_set, List.length_replicate, *]; done) | (simp [iv_length, *]; done) | (simp [Value.cells, iv_length, *]; done) | omega | (simp [Value.cells, iv_length] <;> omega)))) ?_
        refine wc_call (some 126) (by kernel_rfl) (proctorref01_turn w32 (s.getD 4 0) (6 : Int) (by first | with_reducible assumption | omega | (simp_all; done))) ?_
        rintro _ w33 ⟨rfl, H1⟩
        refine ⟨_, rfl, fun _ => H1.keep, ?_⟩
        replace H := H.call H1
        simp only [List.nil_append] at H
        refine wc_call (some 128) (by kernel_rfl) (proctorref01_turn w33 (s.getD 4 0) (11 : Int) (by first | with_reducible assumption | omega | (simp_all; done))) ?_
        rintro _ w34 ⟨rfl, H1⟩
        refine ⟨_, rfl, fun _ => H1.keep, ?_⟩
        replace H := H.call H1
        simp only [List.nil_append] at H
        refine wc_run (T' := [(2, .pointer (some ⟨b1, 0, none⟩)), (4, .pointer (some ⟨b3, 0, none⟩)), (5, .pointer (some ⟨b7, 0, none⟩)), (6, .pointer (some ⟨b10, 0, none⟩)), (11, .pointer (some ⟨b26, 0, none⟩)), (12, .int .i64 k), (13, .int .u32 (s.getD 0 0)), (14, .int .u32 (s.getD 2 0)), (15, .int .u32 (s.getD 4 0)), (124, .int .u32 (s.getD 7 0)), (129, .int .u32 (bxr .u32 (rotr (s.getD 4 0) (6 : Int)) (rotr (s.getD 4 0) (11 : Int)))), (130, .int .u32 (s.getD 4 0)), (143, .int .u32 (bxr .u32 (bnd .u32 (s.getD 4 0) (s.getD 5 0)) (bnd .u32 (bxr .u32 4294967295 (s.getD 4 0)) (s.getD 6 0)))), (147, .int .u32 (K256.getD k.toNat 0)), (151, .int .u32 (q.getD k.toNat 0))]) (L2 := (ol [8, 9, 10, 21, 25, 29, 30])) 1 [2, 4, 5, 6, 11, 12, 13, 14, 15, 124, 129, 130, 143, 147, 151] (by kernel_rfl) ?_
        refine wc_call (some 131) (by kernel_rfl) (proctorref01_turn w34 (s.getD 4 0) (25 : Int) (by first | with_reducible assumption | omega | (simp_all; done))) ?_
        rintro _ w35 ⟨rfl, H1⟩
        refine ⟨_, rfl, fun _ => H1.keep, ?_⟩
        replace H := H.call H1
        simp only [List.nil_append] at H
        refine wc_run (T' := [(2, .pointer (some ⟨b1, 0, none⟩)), (4, .pointer (some ⟨b3, 0, none⟩)), (5, .pointer (some ⟨b7, 0, none⟩)), (6, .pointer (some ⟨b10, 0, none⟩)), (11, .pointer (some ⟨b26, 0, none⟩)), (12, .int .i64 k), (13, .int .u32 (s.getD 0 0)), (14, .int .u32 (s.getD 2 0)), (15, .int .u32 (s.getD 4 0)), (16, .int .u32 (IntKind.u32.wrap ((IntKind.u32.wrap ((IntKind.u32.wrap ((IntKind.u32.wrap ((s.getD 7 0) + (bxr .u32 (bxr .u32 (rotr (s.getD 4 0) (6 : Int)) (rotr (s.getD 4 0) (11 : Int))) (rotr (s.getD 4 0) (25 : Int))))) + (bxr .u32 (bnd .u32 (s.getD 4 0) (s.getD 5 0)) (bnd .u32 (bxr .u32 4294967295 (s.getD 4 0)) (s.getD 6 0))))) + (K256.getD k.toNat 0))) + (q.getD k.toNat 0))))]) (L2 := (ol [])) 6 [2, 4, 5, 6, 11, 12, 13, 14, 15, 16] (by kernel_rfl) ?_
        refine wc_nil rfl ?_
        refine n_np ?_
        refine n_sq ?_
        refine wn_seq (by kernel_rfl) ?_
        refine wn_regD [] (ol [0, 2, 5, 8, 9, 10, 11, 12, 13, 14, 15, 16, 17, 18, 19, 20, 1, 3, 4, 6, 7, 21, 22]) (by kernel_rfl) H (fun w36 H => ?_)
        refine wc_run (T' := [(2, .pointer (some ⟨b1, 0, none⟩)), (4, .pointer (some ⟨b3, 0, none⟩)), (5, .pointer (some ⟨b7, 0, none⟩)), (6, .pointer (some ⟨b10, 0, none⟩)), (11, .pointer (some ⟨b26, 0, none⟩)), (12, .int .i64 k), (13, .int .u32 (s.getD 0 0)), (14, .int .u32 (s.getD 2 0)), (15, .int .u32 (s.getD 4 0)), (16, .int .u32 (IntKind.u32.wrap ((IntKind.u32.wrap ((IntKind.u32.wrap ((IntKind.u32.wrap ((s.getD 7 0) + (bxr .u32 (bxr .u32 (rotr (s.getD 4 0) (6 : Int)) (rotr (s.getD 4 0) (11 : Int))) (rotr (s.getD 4 0) (25 : Int))))) + (bxr .u32 (bnd .u32 (s.getD 4 0) (s.getD 5 0)) (bnd .u32 (bxr .u32 4294967295 (s.getD 4 0)) (s.getD 6 0))))) + (K256.getD k.toNat 0))) + (q.getD k.toNat 0)))), (153, .int .u32 (s.getD 0 0)), (155, .int .u32 (s.getD 0 0)), (158, .int .u32 (s.getD 0 0)), (161, .int .u32 (s.getD 0 0)), (162, .pointer (some ⟨b26, 1, none⟩))]) (L2 := (ol [10, 11, 12, 13, 14, 15, 16, 17, 18, 19, 20, 1, 3, 4, 6, 7, 21, 22])) 5 [2, 4, 5, 6, 11, 12, 13, 14, 15, 16, 153, 155, 158, 161, 162] (by kernel_rfl) ?_
        refine wc_ld (b := b26) (off := 1) (some 163) 87 (.int .u32 (s.getD 1 0)) (by kernel_rfl) (Ld.ent1 H 0 rfl (by kernel_rfl) (iv_get (by first | (simp only [iv_length, List.length_set, List.length_replicate, *]; done) | (simp [iv_length, *]; done) | (simp [Value.cells, iv_length, *]; done) | omega | (simp [Value.cells, iv_length] <;> omega)))) ?_
        refine wc_run (T' := [(2, .pointer (some ⟨b1, 0, none⟩)), (4, .pointer (some ⟨b3, 0, none⟩)), (5, .pointer (some ⟨b7, 0, none⟩)), (6, .pointer (some ⟨b10, 0, none⟩)), (11, .pointer (some ⟨b26, 0, none⟩)), (12, .int .i64 k), (13, .int .u32 (s.getD 0 0)), (14, .int .u32 (s.getD 2 0)), (15, .int .u32 (s.getD 4 0)), (16, .int .u32 (IntKind.u32.wrap ((IntKind.u32.wrap ((IntKind.u32.wrap ((IntKind.u32.wrap ((s.getD 7 0) + (bxr .u32 (bxr .u32 (rotr (s.getD 4 0) (6 : Int)) (rotr (s.getD 4 0) (11 : Int))) (rotr (s.getD 4 0) (25 : Int))))) + (bxr .u32 (bnd .u32 (s.getD 4 0) (s.getD 5 0)) (bnd .u32 (bxr .u32 4294967295 (s.getD 4 0)) (s.getD 6 0))))) + (K256.getD k.toNat 0))) + (q.getD k.toNat 0)))), (153, .int .u32 (s.getD 0 0)), (155, .int .u32 (s.getD 0 0)), (158, .int .u32 (s.getD 0 0)), (168, .int .u32 (bxr .u32 (bnd .u32 (s.getD 0 0) (s.getD 1 0)) (bnd .u32 (s.getD 0 0) (s.getD 2 0)))), (169, .pointer (some ⟨b26, 1, none⟩))]) (L2 := (ol [17, 18, 19, 20, 1, 3, 4, 6, 7, 21, 22])) 6 [2, 4, 5, 6, 11, 12, 13, 14, 15, 16, 153, 155, 158, 168, 169] (by kernel_rfl) ?_
        refine wc_ld (b := b26) (off := 1) (some 170) 87 (.int .u32 (s.getD 1 0)) (by kernel_rfl) (Ld.ent1 H 0 rfl (by kernel_rfl) (iv_get (by first | (simp only [iv_length, List.length_set, List.length_replicate, *]; done) | (simp [iv_length, *]; done) | (simp [Value.cells, iv_length, *]; done) | omega | (simp [Value.cells, iv_length] <;> omega)))) ?_
        refine wc_run (T' := [(2, .pointer (some ⟨b1, 0, none⟩)), (4, .pointer (some ⟨b3, 0, none⟩)), (5, .pointer (some ⟨b7, 0, none⟩)), (6, .pointer (some ⟨b10, 0, none⟩)), (11, .pointer (some ⟨b26, 0, none⟩)), (12, .int .i64 k), (13, .int .u32 (s.getD 0 0)), (14, .int .u32 (s.getD 2 0)), (15, .int .u32 (s.getD 4 0)), (16, .int .u32 (IntKind.u32.wrap ((IntKind.u32.wrap ((IntKind.u32.wrap ((IntKind.u32.wrap ((s.getD 7 0) + (bxr .u32 (bxr .u32 (rotr (s.getD 4 0) (6 : Int)) (rotr (s.getD 4 0) (11 : Int))) (rotr (s.getD 4 0) (25 : Int))))) + (bxr .u32 (bnd .u32 (s.getD 4 0) (s.getD 5 0)) (bnd .u32 (bxr .u32 4294967295 (s.getD 4 0)) (s.getD 6 0))))) + (K256.getD k.toNat 0))) + (q.getD k.toNat 0)))), (153, .int .u32 (s.getD 0 0)), (155, .int .u32 (s.getD 0 0)), (158, .int .u32 (s.getD 0 0)), (173, .int .u32 (bxr .u32 (bxr .u32 (bnd .u32 (s.getD 0 0) (s.getD 1 0)) (bnd .u32 (s.getD 0 0) (s.getD 2 0))) (bnd .u32 (s.getD 1 0) (s.getD 2 0))))]) (L2 := (ol [1, 3, 4, 6, 7, 21, 22])) 3 [2, 4, 5, 6, 11, 12, 13, 14, 15, 16, 153, 155, 158, 173] (by kernel_rfl) ?_
        refine wc_call (some 154) (by kernel_rfl) (proctorref01_turn w36 (s.getD 0 0) (2 : Int) (by first | with_reducible assumption | omega | (simp_all; done))) ?_
        rintro _ w37 ⟨rfl, H1⟩
        refine ⟨_, rfl, fun _ => H1.keep, ?_⟩
        replace H := H.call H1
        simp only [List.nil_append] at H
        refine wc_call (some 156) (by kernel_rfl) (proctorref01_turn w37 (s.getD 0 0) (13 : Int) (by first | with_reducible assumption | omega | (simp_all; done))) ?_
        rintro _ w38 ⟨rfl, H1⟩
        refine ⟨_, rfl, fun _ => H1.keep, ?_⟩
        replace H := H.call H1
        simp only [List.nil_append] at H
        refine wc_run (T' := [(2, .pointer (some ⟨b1, 0, none⟩)), (4, .pointer (some ⟨b3, 0, none⟩)), (5, .pointer (some ⟨b7, 0, none⟩)), (6, .pointer (some ⟨b10, 0, none⟩)), (11, .pointer (some ⟨b26, 0, none⟩)), (12, .int .i64 k), (13, .int .u32 (s.getD 0 0)), (14, .int .u32 (s.getD 2 0)), (15, .int .u32 (s.getD 4 0)), (16, .int .u32 (IntKind.u32.wrap ((IntKind.u32.wrap ((IntKind.u32.wrap ((IntKind.u32.wrap ((s.getD 7 0) + (bxr .u32 (bxr .u32 (rotr (s.getD 4 0) (6 : Int)) (rotr (s.getD 4 0) (11 : Int))) (rotr (s.getD 4 0) (25 : Int))))) + (bxr .u32 (bnd .u32 (s.getD 4 0) (s.getD 5 0)) (bnd .u32 (bxr .u32 4294967295 (s.getD 4 0)) (s.getD 6 0))))) + (K256.getD k.toNat 0))) + (q.getD k.toNat 0)))), (157, .int .u32 (bxr .u32 (rotr (s.getD 0 0) (2 : Int)) (rotr (s.getD 0 0) (13 : Int)))), (158, .int .u32 (s.getD 0 0)), (173, .int .u32 (bxr .u32 (bxr .u32 (bnd .u32 (s.getD 0 0) (s.getD 1 0)) (bnd .u32 (s.getD 0 0) (s.getD 2 0))) (bnd .u32 (s.getD 1 0) (s.getD 2 0))))]) (L2 := (ol [6, 7, 21, 22])) 1 [2, 4, 5, 6, 11, 12, 13, 14, 15, 16, 157, 158, 173] (by kernel_rfl) ?_
        refine wc_call (some 159) (by kernel_rfl) (proctorref01_turn w38 (s.getD 0 0) (22 : Int) (by first | with_reducible assumption | omega | (simp_all; done))) ?_
        rintro _ w39 ⟨rfl, H1⟩
        refine ⟨_, rfl, fun _ => H1.keep, ?_⟩
        replace H := H.call H1
        simp only [List.nil_append] at H
        refine wc_run (T' := [(2, .pointer (some ⟨b1, 0, none⟩)), (4, .pointer (some ⟨b3, 0, none⟩)), (5, .pointer (some ⟨b7, 0, none⟩)), (6, .pointer (some ⟨b10, 0, none⟩)), (11, .pointer (some ⟨b26, 0, none⟩)), (12, .int .i64 k), (13, .int .u32 (s.getD 0 0)), (14, .int .u32 (s.getD 2 0)), (15, .int .u32 (s.getD 4 0)), (16, .int .u32 (IntKind.u32.wrap ((IntKind.u32.wrap ((IntKind.u32.wrap ((IntKind.u32.wrap ((s.getD 7 0) + (bxr .u32 (bxr .u32 (rotr (s.getD 4 0) (6 : Int)) (rotr (s.getD 4 0) (11 : Int))) (rotr (s.getD 4 0) (25 : Int))))) + (bxr .u32 (bnd .u32 (s.getD 4 0) (s.getD 5 0)) (bnd .u32 (bxr .u32 4294967295 (s.getD 4 0)) (s.getD 6 0))))) + (K256.getD k.toNat 0))) + (q.getD k.toNat 0)))), (17, .int .u32 (IntKind.u32.wrap ((bxr .u32 (bxr .u32 (rotr (s.getD 0 0) (2 : Int)) (rotr (s.getD 0 0) (13 : Int))) (rotr (s.getD 0 0) (22 : Int))) + (bxr .u32 (bxr .u32 (bnd .u32 (s.getD 0 0) (s.getD 1 0)) (bnd .u32 (s.getD 0 0) (s.getD 2 0))) (bnd .u32 (s.getD 1 0) (s.getD 2 0))))))]) (L2 := (ol [])) 3 [2, 4, 5, 6, 11, 12, 13, 14, 15, 16, 17] (by kernel_rfl) ?_
        refine wc_nil rfl ?_
        refine n_np ?_
        refine n_sq ?_
        refine wn_reg 18 (by kernel_rfl) ?_
        refine wc_run (T' := [(2, .pointer (some ⟨b1, 0, none⟩)), (4, .pointer (some ⟨b3, 0, none⟩)), (5, .pointer (some ⟨b7, 0, none⟩)), (6, .pointer (some ⟨b10, 0, none⟩)), (11, .pointer (some ⟨b26, 0, none⟩)), (12, .int .i64 k), (14, .int .u32 (s.getD 2 0)), (15, .int .u32 (s.getD 4 0)), (16, .int .u32 (IntKind.u32.wrap ((IntKind.u32.wrap ((IntKind.u32.wrap ((IntKind.u32.wrap ((s.getD 7 0) + (bxr .u32 (bxr .u32 (rotr (s.getD 4 0) (6 : Int)) (rotr (s.getD 4 0) (11 : Int))) (rotr (s.getD 4 0) (25 : Int))))) + (bxr .u32 (bnd .u32 (s.getD 4 0) (s.getD 5 0)) (bnd .u32 (bxr .u32 4294967295 (s.getD 4 0)) (s.getD 6 0))))) + (K256.getD k.toNat 0))) + (q.getD k.toNat 0)))), (177, .int .u32 (IntKind.u32.wrap ((IntKind.u32.wrap ((IntKind.u32.wrap ((IntKind.u32.wrap ((IntKind.u32.wrap ((s.getD 7 0) + (bxr .u32 (bxr .u32 (rotr (s.getD 4 0) (6 : Int)) (rotr (s.getD 4 0) (11 : Int))) (rotr (s.getD 4 0) (25 : Int))))) + (bxr .u32 (bnd .u32 (s.getD 4 0) (s.getD 5 0)) (bnd .u32 (bxr .u32 4294967295 (s.getD 4 0)) (s.getD 6 0))))) + (K256.getD k.toNat 0))) + (q.getD k.toNat 0))) + (IntKind.u32.wrap ((bxr .u32 (bxr .u32 (rotr (s.getD 0 0) (2 : Int)) (rotr (s.getD 0 0) (13 : Int))) (rotr (s.getD 0 0) (22 : Int))) + (bxr .u32 (bxr .u32 (bnd .u32 (s.getD 0 0) (s.getD 1 0)) (bnd .u32 (s.getD 0 0) (s.getD 2 0))) (bnd .u32 (s.getD 1 0) (s.getD 2 0)))))))), (178, .int .u32 (s.getD 0 0)), (179, .pointer (some ⟨b26, 1, none⟩))]) (L2 := (rng 5 13)) 5 [2, 4, 5, 6, 11, 12, 14, 15, 16, 177, 178, 179] (by kernel_rfl) ?_
        refine wc_ld (b := b26) (off := 1) (some 180) 87 (.int .u32 (s.getD 1 0)) (by kernel_rfl) (Ld.ent1 H 0 rfl (by kernel_rfl) (iv_get (by first | (simp only [iv_length, List.length_set, List.length_replicate, *]; done) | (simp [iv_length, *]; done) | (simp [Value.cells, iv_length, *]; done) | omega | (simp [Value.cells, iv_length] <;> omega)))) ?_
        refine wc_run (T' := [(2, .pointer (some ⟨b1, 0, none⟩)), (4, .pointer (some ⟨b3, 0, none⟩)), (5, .pointer (some ⟨b7, 0, none⟩)), (6, .pointer (some ⟨b10, 0, none⟩)), (11, .pointer (some ⟨b26, 0, none⟩)), (12, .int .i64 k), (15, .int .u32 (s.getD 4 0)), (16, .int .u32 (IntKind.u32.wrap ((IntKind.u32.wrap ((IntKind.u32.wrap ((IntKind.u32.wrap ((s.getD 7 0) + (bxr .u32 (bxr .u32 (rotr (s.getD 4 0) (6 : Int)) (rotr (s.getD 4 0) (11 : Int))) (rotr (s.getD 4 0) (25 : Int))))) + (bxr .u32 (bnd .u32 (s.getD 4 0) (s.getD 5 0)) (bnd .u32 (bxr .u32 4294967295 (s.getD 4 0)) (s.getD 6 0))))) + (K256.getD k.toNat 0))) + (q.getD k.toNat 0)))), (177, .int .u32 (IntKind.u32.wrap ((IntKind.u32.wrap ((IntKind.u32.wrap ((IntKind.u32.wrap ((IntKind.u32.wrap ((s.getD 7 0) + (bxr .u32 (bxr .u32 (rotr (s.getD 4 0) (6 : Int)) (rotr (s.getD 4 0) (11 : Int))) (rotr (s.getD 4 0) (25 : Int))))) + (bxr .u32 (bnd .u32 (s.getD 4 0) (s.getD 5 0)) (bnd .u32 (bxr .u32 4294967295 (s.getD 4 0)) (s.getD 6 0))))) + (K256.getD k.toNat 0))) + (q.getD k.toNat 0))) + (IntKind.u32.wrap ((bxr .u32 (bxr .u32 (rotr (s.getD 0 0) (2 : Int)) (rotr (s.getD 0 0) (13 : Int))) (rotr (s.getD 0 0) (22 : Int))) + (bxr .u32 (bxr .u32 (bnd .u32 (s.getD 0 0) (s.getD 1 0)) (bnd .u32 (s.getD 0 0) (s.getD 2 0))) (bnd .u32 (s.getD 1 0) (s.getD 2 0)))))))), (178, .int .u32 (s.getD 0 0)), (180, .int .u32 (s.getD 1 0)), (181, .int .u32 (s.getD 2 0)), (182, .pointer (some ⟨b26, 3, none⟩))]) (L2 := (rng 8 10)) 2 [2, 4, 5, 6, 11, 12, 15, 16, 177, 178, 180, 181, 182] (by kernel_rfl) ?_
        refine wc_ld (b := b26) (off := 3) (some 183) 87 (.int .u32 (s.getD 3 0)) (by kernel_rfl) (Ld.ent1 H 0 rfl (by kernel_rfl) (iv_get (by first | (simp only [iv_length, List.length_set, List.length_replicate, *]; done) | (simp [iv_length, *]; done) | (simp [Value.cells, iv_length, *]; done) | omega | (simp [Value.cells, iv_length] <;> omega)))) ?_
        refine wc_run (T' := [(2, .pointer (some ⟨b1, 0, none⟩)), (4, .pointer (some ⟨b3, 0, none⟩)), (5, .pointer (some ⟨b7, 0, none⟩)), (6, .pointer (some ⟨b10, 0, none⟩)), (11, .pointer (some ⟨b26, 0, none⟩)), (12, .int .i64 k), (177, .int .u32 (IntKind.u32.wrap ((IntKind.u32.wrap ((IntKind.u32.wrap ((IntKind.u32.wrap ((IntKind.u32.wrap ((s.getD 7 0) + (bxr .u32 (bxr .u32 (rotr (s.getD 4 0) (6 : Int)) (rotr (s.getD 4 0) (11 : Int))) (rotr (s.getD 4 0) (25 : Int))))) + (bxr .u32 (bnd .u32 (s.getD 4 0) (s.getD 5 0)) (bnd .u32 (bxr .u32 4294967295 (s.getD 4 0)) (s.getD 6 0))))) + (K256.getD k.toNat 0))) + (q.getD k.toNat 0))) + (IntKind.u32.wrap ((bxr .u32 (bxr .u32 (rotr (s.getD 0 0) (2 : Int)) (rotr (s.getD 0 0) (13 : Int))) (rotr (s.getD 0 0) (22 : Int))) + (bxr .u32 (bxr .u32 (bnd .u32 (s.getD 0 0) (s.getD 1 0)) (bnd .u32 (s.getD 0 0) (s.getD 2 0))) (bnd .u32 (s.getD 1 0) (s.getD 2 0)))))))), (178, .int .u32 (s.getD 0 0)), (180, .int .u32 (s.getD 1 0)), (181, .int .u32 (s.getD 2 0)), (185, .int .u32 (IntKind.u32.wrap ((s.getD 3 0) + (IntKind.u32.wrap ((IntKind.u32.wrap ((IntKind.u32.wrap ((IntKind.u32.wrap ((s.getD 7 0) + (bxr .u32 (bxr .u32 (rotr (s.getD 4 0) (6 : Int)) (rotr (s.getD 4 0) (11 : Int))) (rotr (s.getD 4 0) (25 : Int))))) + (bxr .u32 (bnd .u32 (s.getD 4 0) (s.getD 5 0)) (bnd .u32 (bxr .u32 4294967295 (s.getD 4 0)) (s.getD 6 0))))) + (K256.getD k.toNat 0))) + (q.getD k.toNat 0)))))), (186, .int .u32 (s.getD 4 0)), (187, .pointer (some ⟨b26, 5, none⟩))]) (L2 := (rng 13 5)) 4 [2, 4, 5, 6, 11, 12, 177, 178, 180, 181, 185, 186, 187] (by kernel_rfl) ?_
        refine wc_ld (b := b26) (off := 5) (some 188) 87 (.int .u32 (s.getD 5 0)) (by kernel_rfl) (Ld.ent1 H 0 rfl (by kernel_rfl) (iv_get (by first | (simp only [iv_length, List.length_set, List.length_replicate, *]; done) | (simp [iv_length, *]; done) | (simp [Value.cells, iv_length, *]; done) | omega | (simp [Value.cells, iv_length] <;> omega)))) ?_
        refine wc_run (T' := [(2, .pointer (some ⟨b1, 0, none⟩)), (4, .pointer (some ⟨b3, 0, none⟩)), (5, .pointer (some ⟨b7, 0, none⟩)), (6, .pointer (some ⟨b10, 0, none⟩)), (11, .pointer (some ⟨b26, 0, none⟩)), (12, .int .i64 k), (177, .int .u32 (IntKind.u32.wrap ((IntKind.u32.wrap ((IntKind.u32.wrap ((IntKind.u32.wrap ((IntKind.u32.wrap ((s.getD 7 0) + (bxr .u32 (bxr .u32 (rotr (s.getD 4 0) (6 : Int)) (rotr (s.getD 4 0) (11 : Int))) (rotr (s.getD 4 0) (25 : Int))))) + (bxr .u32 (bnd .u32 (s.getD 4 0) (s.getD 5 0)) (bnd .u32 (bxr .u32 4294967295 (s.getD 4 0)) (s.getD 6 0))))) + (K256.getD k.toNat 0))) + (q.getD k.toNat 0))) + (IntKind.u32.wrap ((bxr .u32 (bxr .u32 (rotr (s.getD 0 0) (2 : Int)) (rotr (s.getD 0 0) (13 : Int))) (rotr (s.getD 0 0) (22 : Int))) + (bxr .u32 (bxr .u32 (bnd .u32 (s.getD 0 0) (s.getD 1 0)) (bnd .u32 (s.getD 0 0) (s.getD 2 0))) (bnd .u32 (s.getD 1 0) (s.getD 2 0)))))))), (178, .int .u32 (s.getD 0 0)), (180, .int .u32 (s.getD 1 0)), (181, .int .u32 (s.getD 2 0)), (185, .int .u32 (IntKind.u32.wrap ((s.getD 3 0) + (IntKind.u32.wrap ((IntKind.u32.wrap ((IntKind.u32.wrap ((IntKind.u32.wrap ((s.getD 7 0) + (bxr .u32 (bxr .u32 (rotr (s.getD 4 0) (6 : Int)) (rotr (s.getD 4 0) (11 : Int))) (rotr (s.getD 4 0) (25 : Int))))) + (bxr .u32 (bnd .u32 (s.getD 4 0) (s.getD 5 0)) (bnd .u32 (bxr .u32 4294967295 (s.getD 4 0)) (s.getD 6 0))))) + (K256.getD k.toNat 0))) + (q.getD k.toNat 0)))))), (186, .int .u32 (s.getD 4 0)), (188, .int .u32 (s.getD 5 0)), (189, .pointer (some ⟨b26, 6, none⟩))]) (L2 := (rng 15 3)) 1 [2, 4, 5, 6, 11, 12, 177, 178, 180, 181, 185, 186, 188, 189] (by kernel_rfl) ?_
        refine wc_ld (b := b26) (off := 6) (some 190) 87 (.int .u32 (s.getD 6 0)) (by kernel_rfl) (Ld.ent1 H 0 rfl (by kernel_rfl) (iv_get (by first | (simp only [iv_length, List.length_set, List.length_replicate, *]; done) | (simp [iv_length, *]; done) | (simp [Value.cells, iv_length, *]; done) | omega | (simp [Value.cells, iv_length] <;> omega)))) ?_
        refine wc_run (T' := [(2, .pointer (some ⟨b1, 0, none⟩)), (4, .pointer (some ⟨b3, 0, none⟩)), (5, .pointer (some ⟨b7, 0, none⟩)), (6, .pointer (some ⟨b10, 0, none⟩)), (11, .pointer (some ⟨b26, 0, none⟩)), (12, .int .i64 k), (191, .agg #[.int .u32 (IntKind.u32.wrap ((IntKind.u32.wrap ((IntKind.u32.wrap ((IntKind.u32.wrap ((IntKind.u32.wrap ((s.getD 7 0) + (bxr .u32 (bxr .u32 (rotr (s.getD 4 0) (6 : Int)) (rotr (s.getD 4 0) (11 : Int))) (rotr (s.getD 4 0) (25 : Int))))) + (bxr .u32 (bnd .u32 (s.getD 4 0) (s.getD 5 0)) (bnd .u32 (bxr .u32 4294967295 (s.getD 4 0)) (s.getD 6 0))))) + (K256.getD k.toNat 0))) + (q.getD k.toNat 0))) + (IntKind.u32.wrap ((bxr .u32 (bxr .u32 (rotr (s.getD 0 0) (2 : Int)) (rotr (s.getD 0 0) (13 : Int))) (rotr (s.getD 0 0) (22 : Int))) + (bxr .u32 (bxr .u32 (bnd .u32 (s.getD 0 0) (s.getD 1 0)) (bnd .u32 (s.getD 0 0) (s.getD 2 0))) (bnd .u32 (s.getD 1 0) (s.getD 2 0))))))), .int .u32 (s.getD 0 0), .int .u32 (s.getD 1 0), .int .u32 (s.getD 2 0), .int .u32 (IntKind.u32.wrap ((s.getD 3 0) + (IntKind.u32.wrap ((IntKind.u32.wrap ((IntKind.u32.wrap ((IntKind.u32.wrap ((s.getD 7 0) + (bxr .u32 (bxr .u32 (rotr (s.getD 4 0) (6 : Int)) (rotr (s.getD 4 0) (11 : Int))) (rotr (s.getD 4 0) (25 : Int))))) + (bxr .u32 (bnd .u32 (s.getD 4 0) (s.getD 5 0)) (bnd .u32 (bxr .u32 4294967295 (s.getD 4 0)) (s.getD 6 0))))) + (K256.getD k.toNat 0))) + (q.getD k.toNat 0))))), .int .u32 (s.getD 4 0), .int .u32 (s.getD 5 0), .int .u32 (s.getD 6 0)])]) (L2 := (rng 17 1)) 1 [2, 4, 5, 6, 11, 12, 191] (by kernel_rfl) ?_
        refine wc_st (b := b26) (off := 0) (Tb := 90) (vs := ([.int .u32 (IntKind.u32.wrap ((IntKind.u32.wrap ((IntKind.u32.wrap ((IntKind.u32.wrap ((IntKind.u32.wrap ((s.getD 7 0) + (bxr .u32 (bxr .u32 (rotr (s.getD 4 0) (6 : Int)) (rotr (s.getD 4 0) (11 : Int))) (rotr (s.getD 4 0) (25 : Int))))) + (bxr .u32 (bnd .u32 (s.getD 4 0) (s.getD 5 0)) (bnd .u32 (bxr .u32 4294967295 (s.getD 4 0)) (s.getD 6 0))))) + (K256.getD k.toNat 0))) + (q.getD k.toNat 0))) + (IntKind.u32.wrap ((bxr .u32 (bxr .u32 (rotr (s.getD 0 0) (2 : Int)) (rotr (s.getD 0 0) (13 : Int))) (rotr (s.getD 0 0) (22 : Int))) + (bxr .u32 (bxr .u32 (bnd .u32 (s.getD 0 0) (s.getD 1 0)) (bnd .u32 (s.getD 0 0) (s.getD 2 0))) (bnd .u32 (s.getD 1 0) (s.getD 2 0))))))), .int .u32 (s.getD 0 0), .int .u32 (s.getD 1 0), .int .u32 (s.getD 2 0), .int .u32 (IntKind.u32.wrap ((s.getD 3 0) + (IntKind.u32.wrap ((IntKind.u32.wrap ((IntKind.u32.wrap ((IntKind.u32.wrap ((s.getD 7 0) + (bxr .u32 (bxr .u32 (rotr (s.getD 4 0) (6 : Int)) (rotr (s.getD 4 0) (11 : Int))) (rotr (s.getD 4 0) (25 : Int))))) + (bxr .u32 (bnd .u32 (s.getD 4 0) (s.getD 5 0)) (bnd .u32 (bxr .u32 4294967295 (s.getD 4 0)) (s.getD 6 0))))) + (K256.getD k.toNat 0))) + (q.getD k.toNat 0))))), .int .u32 (s.getD 4 0), .int .u32 (s.getD 5 0), .int .u32 (s.getD 6 0)])) (cs' := ([.int .u32 (IntKind.u32.wrap ((IntKind.u32.wrap ((IntKind.u32.wrap ((IntKind.u32.wrap ((IntKind.u32.wrap ((s.getD 7 0) + (bxr .u32 (bxr .u32 (rotr (s.getD 4 0) (6 : Int)) (rotr (s.getD 4 0) (11 : Int))) (rotr (s.getD 4 0) (25 : Int))))) + (bxr .u32 (bnd .u32 (s.getD 4 0) (s.getD 5 0)) (bnd .u32 (bxr .u32 4294967295 (s.getD 4 0)) (s.getD 6 0))))) + (K256.getD k.toNat 0))) + (q.getD k.toNat 0))) + (IntKind.u32.wrap ((bxr .u32 (bxr .u32 (rotr (s.getD 0 0) (2 : Int)) (rotr (s.getD 0 0) (13 : Int))) (rotr (s.getD 0 0) (22 : Int))) + (bxr .u32 (bxr .u32 (bnd .u32 (s.getD 0 0) (s.getD 1 0)) (bnd .u32 (s.getD 0 0) (s.getD 2 0))) (bnd .u32 (s.getD 1 0) (s.getD 2 0))))))), .int .u32 (s.getD 0 0), .int .u32 (s.getD 1 0), .int .u32 (s.getD 2 0), .int .u32 (IntKind.u32.wrap ((s.getD 3 0) + (IntKind.u32.wrap ((IntKind.u32.wrap ((IntKind.u32.wrap ((IntKind.u32.wrap ((s.getD 7 0) + (bxr .u32 (bxr .u32 (rotr (s.getD 4 0) (6 : Int)) (rotr (s.getD 4 0) (11 : Int))) (rotr (s.getD 4 0) (25 : Int))))) + (bxr .u32 (bnd .u32 (s.getD 4 0) (s.getD 5 0)) (bnd .u32 (bxr .u32 4294967295 (s.getD 4 0)) (s.getD 6 0))))) + (K256.getD k.toNat 0))) + (q.getD k.toNat 0))))), .int .u32 (s.getD 4 0), .int .u32 (s.getD 5 0), .int .u32 (s.getD 6 0)])) H 0 90 (.agg #[.int .u32 (IntKind.u32.wrap ((IntKind.u32.wrap ((IntKind.u32.wrap ((IntKind.u32.wrap ((IntKind.u32.wrap ((s.getD 7 0) + (bxr .u32 (bxr .u32 (rotr (s.getD 4 0) (6 : Int)) (rotr (s.getD 4 0) (11 : Int))) (rotr (s.getD 4 0) (25 : Int))))) + (bxr .u32 (bnd .u32 (s.getD 4 0) (s.getD 5 0)) (bnd .u32 (bxr .u32 4294967295 (s.getD 4 0)) (s.getD 6 0))))) + (K256.getD k.toNat 0))) + (q.getD k.toNat 0))) + (IntKind.u32.wrap ((bxr .u32 (bxr .u32 (rotr (s.getD 0 0) (2 : Int)) (rotr (s.getD 0 0) (13 : Int))) (rotr (s.getD 0 0) (22 : Int))) + (bxr .u32 (bxr .u32 (bnd .u32 (s.getD 0 0) (s.getD 1 0)) (bnd .u32 (s.getD 0 0) (s.getD 2 0))) (bnd .u32 (s.getD 1 0) (s.getD 2 0))))))), .int .u32 (s.getD 0 0), .int .u32 (s.getD 1 0), .int .u32 (s.getD 2 0), .int .u32 (IntKind.u32.wrap ((s.getD 3 0) + (IntKind.u32.wrap ((IntKind.u32.wrap ((IntKind.u32.wrap ((IntKind.u32.wrap ((s.getD 7 0) + (bxr .u32 (bxr .u32 (rotr (s.getD 4 0) (6 : Int)) (rotr (s.getD 4 0) (11 : Int))) (rotr (s.getD 4 0) (25 : Int))))) + (bxr .u32 (bnd .u32 (s.getD 4 0) (s.getD 5 0)) (bnd .u32 (bxr .u32 4294967295 (s.getD 4 0)) (s.getD 6 0))))) + (K256.getD k.toNat 0))) + (q.getD k.toNat 0))))), .int .u32 (s.getD 4 0), .int .u32 (s.getD 5 0), .int .u32 (s.getD 6 0)]) 8 (by kernel_rfl) rfl rfl (by rfl) (by first | (simp only [iv_length, List.length_set, List.length_replicate, *]; done) | (simp [iv_length, *]; done) | (simp [Value.cells, iv_length, *]; done) | omega | (simp [Value.cells, iv_length] <;> omega)) (by simp [Value.oneCell']) (by first | rfl | exact blit_all _ _ (by first | (simp only [iv_length, List.length_set, List.length_replicate, *]; done) | (simp [iv_length, *]; done) | (simp [Value.cells, iv_length, *]; done) | omega | (simp [Value.cells, iv_length] <;> omega)) | (simp [blit, List.drop_append, List.take_append, iv_length, *]; done)) (fun w40 H => ?_)
        dsimp only [List.set] at H
        refine wc_nil rfl ?_
        refine n_blk ?_
        refine n_sq ?_
        refine wn_reg 3 (by kernel_rfl) ?_
        refine wc_run (T' := [(2, .pointer (some ⟨b1, 0, none⟩)), (4, .pointer (some ⟨b3, 0, none⟩)), (5, .pointer (some ⟨b7, 0, none⟩)), (6, .pointer (some ⟨b10, 0, none⟩)), (11, .pointer (some ⟨b26, 0, none⟩)), (116, .int .i64 (IntKind.i64.wrap (k + 1)))]) (L2 := (rng 2 1)) 2 [2, 4, 5, 6, 11, 116] (by kernel_rfl) ?_
        rw [wi64 (x := k + 1) (by first | omega | (simp only [List.length_append, List.length_cons, List.length_nil, List.length_set, List.length_replicate, List.length_drop, List.length_take, iv_length, Nat.zero_add] at * <;> omega)) (by first | omega | (simp only [List.length_append, List.length_cons, List.length_nil, List.length_set, List.length_replicate, List.length_drop, List.length_take, iv_length, Nat.zero_add] at * <;> omega))]
        refine wc_run (T' := [(2, .pointer (some ⟨b1, 0, none⟩)), (4, .pointer (some ⟨b3, 0, none⟩)), (5, .pointer (some ⟨b7, 0, none⟩)), (6, .pointer (some ⟨b10, 0, none⟩)), (11, .pointer (some ⟨b26, 0, none⟩)), (12, .int .i64 (k + 1))]) (L2 := (rng 3 0)) 1 [2, 4, 5, 6, 11, 12] (by kernel_rfl) ?_
        refine wc_nil rfl ?_
        refine round_end (k + 1, [IntKind.u32.wrap ((IntKind.u32.wrap ((IntKind.u32.wrap ((IntKind.u32.wrap ((IntKind.u32.wrap ((s.getD 7 0) + (bxr .u32 (bxr .u32 (rotr (s.getD 4 0) (6 : Int)) (rotr (s.getD 4 0) (11 : Int))) (rotr (s.getD 4 0) (25 : Int))))) + (bxr .u32 (bnd .u32 (s.getD 4 0) (s.getD 5 0)) (bnd .u32 (bxr .u32 4294967295 (s.getD 4 0)) (s.getD 6 0))))) + (K256.getD k.toNat 0))) + (q.getD k.toNat 0))) + (IntKind.u32.wrap ((bxr .u32 (bxr .u32 (rotr (s.getD 0 0) (2 : Int)) (rotr (s.getD 0 0) (13 : Int))) (rotr (s.getD 0 0) (22 : Int))) + (bxr .u32 (bxr .u32 (bnd .u32 (s.getD 0 0) (s.getD 1 0)) (bnd .u32 (s.getD 0 0) (s.getD 2 0))) (bnd .u32 (s.getD 1 0) (s.getD 2 0)))))), s.getD 0 0, s.getD 1 0, s.getD 2 0, IntKind.u32.wrap ((s.getD 3 0) + (IntKind.u32.wrap ((IntKind.u32.wrap ((IntKind.u32.wrap ((IntKind.u32.wrap ((s.getD 7 0) + (bxr .u32 (bxr .u32 (rotr (s.getD 4 0) (6 : Int)) (rotr (s.getD 4 0) (11 : Int))) (rotr (s.getD 4 0) (25 : Int))))) + (bxr .u32 (bnd .u32 (s.getD 4 0) (s.getD 5 0)) (bnd .u32 (bxr .u32 4294967295 (s.getD 4 0)) (s.getD 6 0))))) + (K256.getD k.toNat 0))) + (q.getD k.toNat 0)))), s.getD 4 0, s.getD 5 0, s.getD 6 0]) [2, 4, 5, 6, 11, 12] (by kernel_rfl) ⟨H, ?_⟩ ?_
        · obtain ⟨h1, h2, h3, h4⟩ := hi
          have e1 : (k + 1).toNat = k.toNat + 1 := by omega
          refine ⟨by omega, by omega, rfl, ?_⟩
          rw [e1, itN, ← h4, rnS, rT1, rT2, tu6, tu2, ← wr3 _ (K256.getD k.toNat 0), hw5]
        · first | omega | (dsimp only; omega)
      · have hc30 := of_decide_eq_false hc30
        refine wn_exit 4 (by kernel_rfl) ?_
        refine e_sq ?_
        refine e_then ?_
        refine e_blk ?_
        refine n_sq ?_
        refine wn_seq (by kernel_rfl) ?_
        refine wn_seq (by kernel_rfl) ?_
        refine wn_reg 1 (by kernel_rfl) ?_
        refine wc_run (T' := [(2, .pointer (some ⟨b1, 0, none⟩)), (4, .pointer (some ⟨b3, 0, none⟩)), (11, .pointer (some ⟨b26, 0, none⟩)), (18, .int .i64 0)]) (L2 := (rng 1 0)) 1 [2, 4, 11, 18] (by kernel_rfl) ?_
        refine wc_nil rfl ?_
        refine n_sq ?_
        refine wn_block 6 (by kernel_rfl) ?_
        obtain ⟨hs1, hs2, hs3, hs4⟩ := hi
        have hs5 : k.toNat = 64 := by omega
        refine wn_loop (fun ((j, g) : Int × List Int) => [(2, .pointer (some ⟨b1, 0, none⟩)), (4, .pointer (some ⟨b3, 0, none⟩)), (11, .pointer (some ⟨b26, 0, none⟩)), (18, .int .i64 j)]) (fun ((j, g) : Int × List Int) w' => Hp no w w' [.bk b26 (row (iv .u32 s) 90), .bk b10 (row (iv .u32 q) 88), .bk b7 (row (iv .u32 K256) 88), .bk b3 (row (iv .u32 (List.replicate 8 0)) 90), .bk b1 (row (iv .u32 g) 90)] ∧ 0 ≤ j ∧ j ≤ 8 ∧ g.length = 8 ∧ g = itN (adS s) j.toNat hv) (fun ((j, g) : Int × List Int) => (8 - j).toNat) ((0 : Int), hv) [2, 4, 11, 18] (by kernel_rfl) rfl ⟨H, by simp [itN, hh]⟩ ?_
        rintro ⟨j, g⟩ w41 ⟨H, hi⟩
        try dsimp only at H hi
        refine wn_pick (T' := [(2, .pointer (some ⟨b1, 0, none⟩)), (4, .pointer (some ⟨b3, 0, none⟩)), (11, .pointer (some ⟨b26, 0, none⟩)), (18, .int .i64 j)]) [2, 4, 11, 18] (by kernel_rfl) ?_
        refine wn_seq (by kernel_rfl) ?_
        refine wn_seq (by kernel_rfl) ?_
        refine wn_reg 2 (by kernel_rfl) ?_
        refine wc_run (T' := [(2, .pointer (some ⟨b1, 0, none⟩)), (4, .pointer (some ⟨b3, 0, none⟩)), (11, .pointer (some ⟨b26, 0, none⟩)), (18, .int .i64 j), (193, .bool (decide (j < (8 : Int))))]) (L2 := (rng 2 0)) 2 [2, 4, 11, 18, 193] (by kernel_rfl) ?_
        refine wc_nil rfl ?_
        refine n_sq ?_
        refine wn_cond (.tmp 193) (decide (j < (8 : Int))) (by kernel_rfl) rfl (fun hc42 => ?_) (fun hc42 => ?_)
        · have hc42 := of_decide_eq_true hc42
          refine wn_skip (by kernel_rfl) ?_
          refine n_sq ?_
          refine wn_seq (by kernel_rfl) ?_
          refine wn_block 7 (by kernel_rfl) ?_
          refine wn_regD [] (ol [0, 1, 2, 3, 4, 5, 6, 7, 8]) (by kernel_rfl) H (fun w43 H => ?_)
          refine wc_run (T' := [(2, .pointer (some ⟨b1, 0, none⟩)), (4, .pointer (some ⟨b3, 0, none⟩)), (11, .pointer (some ⟨b26, 0, none⟩)), (18, .int .i64 j), (196, .int .i64 j)]) (L2 := (ol [1, 2, 3, 4, 5, 6, 7, 8])) 1 [2, 4, 11, 18, 196] (by kernel_rfl) ?_
          refine wc_ix (b := b1) (off := 0) (o' := j.toNat) (some 197) (some ⟨b1, 0, none⟩) 8 1 j (by kernel_rfl) rfl (by omega) (by omega) (by omega) ?_
          refine wc_ld (b := b1) (off := j.toNat) (some 198) 87 (.int .u32 (g.getD j.toNat 0)) (by kernel_rfl) (Ld.ent1 H 4 rfl (by kernel_rfl) (iv_get (by first | (simp only [iv_length, List.length_set, List.length_replicate, *]; done) | (simp [iv_length, *]; done) | (simp [Value.cells, iv_length, *]; done) | omega | (simp [Value.cells, iv_length] <;> omega)))) ?_
          refine wc_run (T' := [(2, .pointer (some ⟨b1, 0, none⟩)), (4, .pointer (some ⟨b3, 0, none⟩)), (11, .pointer (some ⟨b26, 0, none⟩)), (18, .int .i64 j), (196, .int .i64 j), (198, .int .u32 (g.getD j.toNat 0)), (199, .int .i64 j)]) (L2 := (ol [4, 5, 6, 7, 8])) 1 [2, 4, 11, 18, 196, 198, 199] (by kernel_rfl) ?_
          refine wc_ix (b := b26) (off := 0) (o' := j.toNat) (some 200) (some ⟨b26, 0, none⟩) 8 1 j (by kernel_rfl) rfl (by omega) (by omega) (by omega) ?_
          refine wc_ld (b := b26) (off := j.toNat) (some 201) 87 (.int .u32 (s.getD j.toNat 0)) (by kernel_rfl) (Ld.ent1 H 0 rfl (by kernel_rfl) (iv_get (by first | (simp only [iv_length, List.length_set, List.length_replicate, *]; done) | (simp [iv_length, *]; done) | (simp [Value.cells, iv_length, *]; done) | omega | (simp [Value.cells, iv_length] <;> omega)))) ?_
          refine wc_run (T' := [(2, .pointer (some ⟨b1, 0, none⟩)), (4, .pointer (some ⟨b3, 0, none⟩)), (11, .pointer (some ⟨b26, 0, none⟩)), (18, .int .i64 j), (196, .int .i64 j), (202, .int .u32 (IntKind.u32.wrap ((g.getD j.toNat 0) + (s.getD j.toNat 0))))]) (L2 := (ol [7, 8])) 1 [2, 4, 11, 18, 196, 202] (by kernel_rfl) ?_
          refine wc_ix (b := b1) (off := 0) (o' := j.toNat) (some 203) (some ⟨b1, 0, none⟩) 8 1 j (by kernel_rfl) rfl (by omega) (by omega) (by omega) ?_
          refine wc_st (b := b1) (off := j.toNat) (Tb := 90) (vs := ([.int .u32 (IntKind.u32.wrap ((g.getD j.toNat 0) + (s.getD j.toNat 0)))])) (cs' := (iv .u32 (g.set j.toNat (IntKind.u32.wrap ((g.getD j.toNat 0) + (s.getD j.toNat 0)))))) H 4 87 (.int .u32 (IntKind.u32.wrap ((g.getD j.toNat 0) + (s.getD j.toNat 0)))) 1 (by kernel_rfl) rfl rfl (by rfl) (by first | (simp only [iv_length, List.length_set, List.length_replicate, *]; done) | (simp [iv_length, *]; done) | (simp [Value.cells, iv_length, *]; done) | omega | (simp [Value.cells, iv_length] <;> omega)) (by simp [Value.oneCell']) (by exact iv_set _ _ _ _ (by first | (simp only [iv_length, List.length_set, List.length_replicate, *]; done) | (simp [iv_length, *]; done) | (simp [Value.cells, iv_length, *]; done) | omega | (simp [Value.cells, iv_length] <;> omega))) (fun w44 H => ?_)
          dsimp only [List.set] at H
          refine wc_nil rfl ?_
          refine n_np ?_
          refine n_blk ?_
          refine n_sq ?_
          refine wn_reg 3 (by kernel_rfl) ?_
          refine wc_run (T' := [(2, .pointer (some ⟨b1, 0, none⟩)), (4, .pointer (some ⟨b3, 0, none⟩)), (11, .pointer (some ⟨b26, 0, none⟩)), (195, .int .i64 (IntKind.i64.wrap (j + 1)))]) (L2 := (rng 2 1)) 2 [2, 4, 11, 195] (by kernel_rfl) ?_
          rw [wi64 (x := j + 1) (by first | omega | (simp only [List.length_append, List.length_cons, List.length_nil, List.length_set, List.length_replicate, List.length_drop, List.length_take, iv_length, Nat.zero_add] at * <;> omega)) (by first | omega | (simp only [List.length_append, List.length_cons, List.length_nil, List.length_set, List.length_replicate, List.length_drop, List.length_take, iv_length, Nat.zero_add] at * <;> omega))]
          refine wc_run (T' := [(2, .pointer (some ⟨b1, 0, none⟩)), (4, .pointer (some ⟨b3, 0, none⟩)), (11, .pointer (some ⟨b26, 0, none⟩)), (18, .int .i64 (j + 1))]) (L2 := (rng 3 0)) 1 [2, 4, 11, 18] (by kernel_rfl) ?_
          refine wc_nil rfl ?_
          refine round_end (j + 1, g.set j.toNat (IntKind.u32.wrap ((g.getD j.toNat 0) + (s.getD j.toNat 0)))) [2, 4, 11, 18] (by kernel_rfl) ⟨H, ?_⟩ ?_
          · obtain ⟨h1, h2, h3, h4⟩ := hi
            have e1 : (j + 1).toNat = j.toNat + 1 := by omega
            refine ⟨by omega, by omega, by simp [h3], ?_⟩
            rw [e1, itN, adS, ← h4]
          · first | omega | (dsimp only; omega)
        · have hc42 := of_decide_eq_false hc42
          refine wn_exit 6 (by kernel_rfl) ?_
          refine e_sq ?_
          refine e_then ?_
          refine e_blk ?_
          refine n_sq ?_
          refine wn_seq (by kernel_rfl) ?_
          refine wn_reg 2 (by kernel_rfl) ?_
          refine wc_ld (b := b1) (off := 0) (some 204) 90 (.agg (iv .u32 g).toArray) (by kernel_rfl) (Ld.entW H 4 (n := 8) rfl (by kernel_rfl) (by first | (simp only [iv_length, List.length_set, List.length_replicate, *]; done) | (simp [iv_length, *]; done) | (simp [Value.cells, iv_length, *]; done) | omega | (simp [Value.cells, iv_length] <;> omega))) ?_
          refine wc_st (b := b3) (off := 0) (Tb := 90) (vs := (iv .u32 g)) (cs' := (iv .u32 g)) H 3 90 (.agg (iv .u32 g).toArray) 8 (by kernel_rfl) rfl rfl (by first | (simp only [iv_length, List.length_set, List.length_replicate, *]; done) | (simp [iv_length, *]; done) | (simp [Value.cells, iv_length, *]; done) | omega | (simp [Value.cells, iv_length] <;> omega)) (by have h := (iv_length .u32 (List.replicate 8 0)).trans List.length_replicate; omega) (by exact iv_flat _ _) (by first | rfl | exact blit_all _ _ (by first | (simp only [iv_length, List.length_set, List.length_replicate, *]; done) | (simp [iv_length, *]; done) | (simp [Value.cells, iv_length, *]; done) | omega | (simp [Value.cells, iv_length] <;> omega)) | (simp [blit, List.drop_append, List.take_append, iv_length, *]; done)) (fun w45 H => ?_)
          dsimp only [List.set] at H
          refine wc_nil rfl ?_
          refine n_sq ?_
          refine wn_ret (by kernel_rfl) ?_
          refine ret1 _ (Or.inr rfl) Try.results57 ⟨_, _, rfl, Ld.entW H 3 (n := 8) rfl (by kernel_rfl) (by first | (simp only [iv_length, List.length_set, List.length_replicate, *]; done) | (simp [iv_length, *]; done) | (simp [Value.cells, iv_length, *]; done) | omega | (simp [Value.cells, iv_length] <;> omega))⟩ ?_
          have he46 : (cmpF hv b) = g := by
            obtain ⟨h1, h2, h3, h4⟩ := hi
            have e : j.toNat = 8 := by omega
            rw [h4, e, hs4, hs5, cmpF]
          exact ⟨by first | (rw [he46]; done) | (rw [he46]; rfl), H.nil, by exact cmpF_length hh⟩
end Go.Proofs.Ytfeecdcanjkohaa
