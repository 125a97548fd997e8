/-
  Walks of some of this seat's functions: each call's answer, and what it leaves of memory. No condition beside those that stand in each theorem.
-/
import Derived.Test.YtfeecdcanjkohaaRows
import Derived.Test.YtfeecdcanjkohaaSa8
set_option linter.all false
namespace Go.Proofs.Ytfeecdcanjkohaa
open Go.RowKit Go.Px

def DGL : List Int := [48, 49, 50, 51, 52, 53, 54, 55, 56, 57, 97, 98, 99, 100, 101, 102]
theorem dg_r (j : Nat) : 0 ≤ ([48, 49, 50, 51, 52, 53, 54, 55, 56, 57, 97, 98, 99, 100, 101, 102] : List Int).getD j 0 ∧ ([48, 49, 50, 51, 52, 53, 54, 55, 56, 57, 97, 98, 99, 100, 101, 102] : List Int).getD j 0 < 256 :=
  get_of_mem (p := fun x => 0 ≤ x ∧ x < 256) (by omega) (by decide) j
theorem dg_l (j : Nat) : 0 ≤ ([48, 49, 50, 51, 52, 53, 54, 55, 56, 57, 97, 98, 99, 100, 101, 102] : List Int).getD j 0 ∧ ([48, 49, 50, 51, 52, 53, 54, 55, 56, 57, 97, 98, 99, 100, 101, 102] : List Int).getD j 0 < 128 :=
  get_of_mem (p := fun x => 0 ≤ x ∧ x < 128) (by omega) (by decide) j
def hxS (h : List Int) (j : Nat) (q : List Int) : List Int := q ++ [DGL.getD (h.getD j 0 / 16).toNat 0, DGL.getD (h.getD j 0 % 16).toNat 0]
def hexF (h : List Int) : List Int := itN (hxS h) 32 []
theorem hexN_length (h : List Int) : ∀ n, (itN (hxS h) n []).length = 2 * n
  | 0 => rfl
  | n + 1 => by simp only [itN, hxS, List.length_append, hexN_length h n, List.length_cons, List.length_nil]; omega
theorem hexF_length (h : List Int) : (hexF h).length = 64 := hexN_length h 32
theorem hexF_range (h : List Int) : ∀ x ∈ hexF h, 0 ≤ x ∧ x < 256 := by
  have key : ∀ n, ∀ x ∈ itN (hxS h) n [], 0 ≤ x ∧ x < 256 := by
    intro n
    induction n with
    | zero => intro x hx; simp [itN] at hx
    | succ n ih =>
      intro x hx
      simp only [itN, hxS, List.mem_append, List.mem_cons, List.mem_nil_iff, or_false] at hx
      rcases hx with h | rfl | rfl
      · exact ih x h
      · exact dg_r _
      · exact dg_r _
  exact key 32
theorem shr4 {c : Int} (h : 0 ≤ c ∧ c < 256) : shrV .u8 c 4 = c / 16 := by
  unfold shrV
  rw [show min (4 : Int).toNat (IntKind.bits .u8) = 4 from rfl, Int.fdiv_eq_ediv_of_nonneg _ (by decide)]
  rfl
theorem and15 {c : Int} (h : 0 ≤ c ∧ c < 256) : bnd .u8 c 15 = c % 16 := by
  have hu : bnd .u8 c 15 = IntKind.u8.wrap ((BitVec.ofInt 8 c &&& BitVec.ofInt 8 15).toNat : Int) := rfl
  rw [hu, wrap8, BitVec.toNat_and, BitVec.toNat_ofInt, show (BitVec.ofInt 8 15).toNat = 2 ^ 4 - 1 from rfl, Nat.and_two_pow_sub_one_eq_mod]
  have e1 : (c % ((2 ^ 8 : Nat) : Int)).toNat = c.toNat := by congr 1; omega
  rw [e1]; omega
def hfB (c : Int) : Bool := decide (48 ≤ c ∧ c ≤ 57 ∨ 97 ≤ c ∧ c ≤ 102)
def hfV (c : Int) : Int := if 48 ≤ c ∧ c ≤ 57 then c - 48 else if 97 ≤ c ∧ c ≤ 102 then c - 87 else 0
def dgV (c : Int) : Int := if hfB c = true then hfV c else -1
theorem hfV_r (c : Int) : 0 ≤ hfV c ∧ hfV c < 16 := by unfold hfV; split; (· omega); split <;> omega
theorem dg_hit {i c : Int} (h0 : 0 ≤ i) (h1 : i < 16) (h : ([48, 49, 50, 51, 52, 53, 54, 55, 56, 57, 97, 98, 99, 100, 101, 102] : List Int).getD i.toNat 0 = c) : dgV c = i := by
  have : i = 0 ∨ i = 1 ∨ i = 2 ∨ i = 3 ∨ i = 4 ∨ i = 5 ∨ i = 6 ∨ i = 7 ∨ i = 8 ∨ i = 9 ∨ i = 10 ∨ i = 11 ∨ i = 12 ∨ i = 13 ∨ i = 14 ∨ i = 15 := by omega
  rcases this with rfl | rfl | rfl | rfl | rfl | rfl | rfl | rfl | rfl | rfl | rfl | rfl | rfl | rfl | rfl | rfl <;> subst h <;> decide
theorem dg_miss {c : Int} (h : ∀ j : Nat, j < 16 → ([48, 49, 50, 51, 52, 53, 54, 55, 56, 57, 97, 98, 99, 100, 101, 102] : List Int).getD j 0 ≠ c) : dgV c = -1 := by
  have g : ∀ (j : Nat) (v : Int), j < 16 → ([48, 49, 50, 51, 52, 53, 54, 55, 56, 57, 97, 98, 99, 100, 101, 102] : List Int).getD j 0 = v → v ≠ c := fun j v hj hv => hv ▸ h j hj
  have g0 := g 0 48 (by decide) rfl
  have g1 := g 1 49 (by decide) rfl
  have g2 := g 2 50 (by decide) rfl
  have g3 := g 3 51 (by decide) rfl
  have g4 := g 4 52 (by decide) rfl
  have g5 := g 5 53 (by decide) rfl
  have g6 := g 6 54 (by decide) rfl
  have g7 := g 7 55 (by decide) rfl
  have g8 := g 8 56 (by decide) rfl
  have g9 := g 9 57 (by decide) rfl
  have ga := g 10 97 (by decide) rfl
  have gb := g 11 98 (by decide) rfl
  have gc := g 12 99 (by decide) rfl
  have gd := g 13 100 (by decide) rfl
  have ge := g 14 101 (by decide) rfl
  have gf := g 15 102 (by decide) rfl
  unfold dgV hfB
  rw [if_neg]
  simp only [decide_eq_true_eq]
  omega
def unS (s : List Int) (j : Nat) (q : List Int) : List Int := q.set (j / 2) ((q.getD (j / 2) 0 * 16 + hfV (s.getD j 0)) % 256)
def unN (s : List Int) (n : Nat) : List Int := itN (unS s) n (List.replicate 32 0)
def unOk (s : List Int) : Bool := decide (s.length = 64) && s.all hfB
def unH (s : List Int) : List Int := if unOk s = true then unN s 64 else List.replicate 32 0
def unE (s : List Int) : Int := if unOk s = true then 0 else 8
theorem unN_length (s : List Int) (n : Nat) : (unN s n).length = 32 := itN_length (fun j q h => by simp [unS, h]) _ _ (by simp)
theorem unH_length (s : List Int) : (unH s).length = 32 := by unfold unH; split; (· exact unN_length _ _); (· simp)
theorem un_bad {s : List Int} {j : Nat} (hj : j < s.length) (h : hfB (s.getD j 0) = false) : unOk s = false := by
  unfold unOk
  rw [Bool.and_eq_false_iff]; right
  rw [List.all_eq_false]
  exact ⟨s.getD j 0, by rw [List.getD_eq_getElem?_getD, List.getElem?_eq_getElem hj]; exact List.getElem_mem _, by rw [h]; decide⟩
theorem un_good {s : List Int} (hl : s.length = 64) (h : ∀ j : Nat, j < 64 → hfB (s.getD j 0) = true) : unOk s = true := by
  unfold unOk
  rw [Bool.and_eq_true]
  refine ⟨by simp [hl], ?_⟩
  rw [List.all_eq_true]
  intro x hx
  obtain ⟨i, hi, rfl⟩ := List.mem_iff_getElem.1 hx
  have := h i (by omega)
  rwa [List.getD_eq_getElem?_getD, List.getElem?_eq_getElem hi] at this
theorem bor16 {x d : Int} (hx : 0 ≤ x ∧ x < 256) (hd : 0 ≤ d ∧ d < 16) : bor .u8 (shlV .u8 x 4) d = (x * 16 + d) % 256 := by
  have hs : shlV .u8 x 4 = x * 16 % 256 := by
    unfold shlV
    rw [wrap8, show min (4 : Int).toNat (IntKind.bits .u8) = 4 from rfl]; rfl
  have hu : bor .u8 (shlV .u8 x 4) d = IntKind.u8.wrap ((BitVec.ofInt 8 (shlV .u8 x 4) ||| BitVec.ofInt 8 d).toNat : Int) := rfl
  rw [hu, hs, wrap8, BitVec.toNat_or, BitVec.toNat_ofInt, BitVec.toNat_ofInt]
  have e1 : (x * 16 % 256 % ((2 ^ 8 : Nat) : Int)).toNat = 2 ^ 4 * (x % 16).toNat := by omega
  have e2 : (d % ((2 ^ 8 : Nat) : Int)).toNat = d.toNat := by congr 1; omega
  rw [e1, e2, ← Nat.two_pow_add_eq_or_of_lt (i := 4) (b := d.toNat) (by omega)]
  omega
theorem unN_range (s : List Int) (n : Nat) : ∀ x ∈ unN s n, 0 ≤ x ∧ x < 256 := by
  unfold unN
  induction n with
  | zero => intro x hx; have := List.eq_of_mem_replicate hx; omega
  | succ n ih =>
    intro x hx
    simp only [itN, unS] at hx
    rcases List.mem_or_eq_of_mem_set hx with h1 | rfl
    · exact ih x h1
    · omega

noncomputable def cd_sha_Hex : Code := (Try.f48.body).getD .skip
theorem sha_Hex (w : World) (h : List Int) (hh : h.length = 32) (hb : ∀ j, 0 ≤ h.getD j 0 ∧ h.getD j 0 < 256) :
    Calls Try.prog 48 #[.agg (iv .u8 h).toArray] w (fun e w' => e = .returned (.string (strOfNums (hexF h))) ∧ Hp no w w' []) := by
  refine enter (args := [_]) (c := cd_sha_Hex) (N := 22) Try.func48 (by kernel_rfl) (by kernel_rfl) (by simp) ?_
  have H := Hp.start w
  refine wn_seq (by kernel_rfl) ?_
  refine wn_reg 2 (by kernel_rfl) ?_
  refine wc_new H (some 1) (row (iv .u8 h) 47) (fun r => .pointer (some ⟨r, 0, none⟩)) (by kernel_rfl) (fun b1 w2 H => ?_)
  refine wc_run (T' := [(1, .pointer (some ⟨b1, 0, none⟩))]) (L2 := (rng 2 0)) 1 [1] (by kernel_rfl) ?_
  refine wc_nil rfl ?_
  refine n_sq ?_
  refine wn_seq (by kernel_rfl) ?_
  refine wn_reg 1 (by kernel_rfl) ?_
  refine wc_run (T' := [(1, .pointer (some ⟨b1, 0, none⟩)), (3, .slice none 0 0)]) (L2 := (rng 1 0)) 1 [1, 3] (by kernel_rfl) ?_
  refine wc_nil rfl ?_
  refine n_sq ?_
  refine wn_seq (by kernel_rfl) ?_
  refine wn_seq (by kernel_rfl) ?_
  refine wn_reg 2 (by kernel_rfl) ?_
  refine wc_ld (b := b1) (off := 0) (some 6) 47 (.agg (iv .u8 h).toArray) (by kernel_rfl) (Ld.entW H 0 (n := 32) rfl (by kernel_rfl) (by exact (iv_length .u8 h).trans hh)) ?_
  refine wc_run (T' := [(3, .slice none 0 0), (6, .agg (iv .u8 h).toArray), (7, .int .i64 0)]) (L2 := (rng 2 0)) 1 [3, 6, 7] (by kernel_rfl) ?_
  refine wc_nil rfl ?_
  refine n_sq ?_
  refine wn_block 0 (by kernel_rfl) ?_
  have H := H.nils 5 1
  refine wn_loop (fun ((i, q, A, c) : Int × List Int × Option Addr × Nat) => [(3, .slice A q.length c), (6, .agg (iv .u8 h).toArray), (7, .int .i64 i)]) (fun ((i, q, A, c) : Int × List Int × Option Addr × Nat) w' => Hp no w w' [.sl A q.length c (iv .u8 q) 5 1, .bk b1 (row (iv .u8 h) 47)] ∧ 0 ≤ i ∧ i ≤ 32 ∧ q.length = 2 * i.toNat ∧ q = itN (hxS h) i.toNat []) (fun ((i, q, A, c) : Int × List Int × Option Addr × Nat) => (32 - i).toNat) ((0 : Int), [], none, 0) [3, 6, 7] (by kernel_rfl) rfl ⟨H, by simp [itN]⟩ ?_
  rintro ⟨i, q, A, c⟩ w3 ⟨H, hi⟩
  try dsimp only at H hi
  refine wn_pick (T' := [(3, .slice A q.length c), (6, .agg (iv .u8 h).toArray), (7, .int .i64 i)]) [3, 6, 7] (by kernel_rfl) ?_
  have hx := hb i.toNat
  have h4 := shr4 hx
  have h15 := and15 hx
  refine wn_seq (by kernel_rfl) ?_
  refine wn_reg 1 (by kernel_rfl) ?_
  refine wc_run (T' := [(3, .slice A q.length c), (6, .agg (iv .u8 h).toArray), (7, .int .i64 i), (8, .bool (decide (i < (32 : Int))))]) (L2 := (rng 1 0)) 1 [3, 6, 7, 8] (by kernel_rfl) ?_
  refine wc_nil rfl ?_
  refine n_sq ?_
  refine wn_seq (by kernel_rfl) ?_
  refine wn_cond (.tmp 8) (decide (i < (32 : Int))) (by kernel_rfl) rfl (fun hc4 => ?_) (fun hc4 => ?_)
  · have hc4 := of_decide_eq_true hc4
    refine wn_skip (by kernel_rfl) ?_
    refine n_sq ?_
    refine wn_seq (by kernel_rfl) ?_
    refine wn_block 1 (by kernel_rfl) ?_
    refine wn_seq (by kernel_rfl) ?_
    refine wn_reg 2 (by kernel_rfl) ?_
    refine wc_iv (cs := (iv .u8 h)) (some 9) 5 32 1 i (.int .u8 (h.getD (i).toNat 0)) (by kernel_rfl) (by kernel_rfl) (by omega) (by omega) (Or.inl ⟨by kernel_rfl, by rw [Nat.mul_one]; exact iv_get (by have h : h.length = _ := hh; omega)⟩) ?_
    refine wc_run (T' := [(3, .slice A q.length c), (5, .int .u8 (h.getD (i).toNat 0)), (6, .agg (iv .u8 h).toArray), (7, .int .i64 i)]) (L2 := (rng 2 0)) 1 [3, 5, 6, 7] (by kernel_rfl) ?_
    refine wc_nil rfl ?_
    refine n_sq ?_
    refine wn_regD [] (ol [0, 1, 2, 3, 4, 5, 6, 7, 8, 9]) (by kernel_rfl) H (fun w5 H => ?_)
    refine wc_run (T' := [(5, .int .u8 (h.getD (i).toNat 0)), (6, .agg (iv .u8 h).toArray), (7, .int .i64 i), (10, .slice A q.length c), (12, .int .u8 (shrV .u8 (h.getD (i).toNat 0) 4))]) (L2 := (ol [3, 4, 5, 6, 7, 8, 9])) 3 [5, 6, 7, 10, 12] (by kernel_rfl) ?_
    refine wc_isB (some 13) ([48, 49, 50, 51, 52, 53, 54, 55, 56, 57, 97, 98, 99, 100, 101, 102]) (shrV .u8 (h.getD (i).toNat 0) 4) (by kernel_rfl) (by first | omega | (simp only [List.length_append, List.length_cons, List.length_nil, List.length_set, List.length_replicate, List.length_drop, List.length_take, iv_length, Nat.zero_add] at * <;> omega)) (by first | omega | (simp only [List.length_append, List.length_cons, List.length_nil, List.length_set, List.length_replicate, List.length_drop, List.length_take, iv_length, Nat.zero_add] at * <;> omega)) (by exact dg_r _) ?_
    refine wc_run (T' := [(6, .agg (iv .u8 h).toArray), (7, .int .i64 i), (10, .slice A q.length c), (13, .int .u8 (([48, 49, 50, 51, 52, 53, 54, 55, 56, 57, 97, 98, 99, 100, 101, 102]).getD (shrV .u8 (h.getD (i).toNat 0) 4).toNat 0)), (15, .int .u8 (bnd .u8 (h.getD (i).toNat 0) 15))]) (L2 := (ol [6, 7, 8, 9])) 2 [6, 7, 10, 13, 15] (by kernel_rfl) ?_
    refine wc_isB (some 16) ([48, 49, 50, 51, 52, 53, 54, 55, 56, 57, 97, 98, 99, 100, 101, 102]) (bnd .u8 (h.getD (i).toNat 0) 15) (by kernel_rfl) (by first | omega | (simp only [List.length_append, List.length_cons, List.length_nil, List.length_set, List.length_replicate, List.length_drop, List.length_take, iv_length, Nat.zero_add] at * <;> omega)) (by first | omega | (simp only [List.length_append, List.length_cons, List.length_nil, List.length_set, List.length_replicate, List.length_drop, List.length_take, iv_length, Nat.zero_add] at * <;> omega)) (by exact dg_r _) ?_
    refine wc_new H (some 17) (row ([.int .u8 (([48, 49, 50, 51, 52, 53, 54, 55, 56, 57, 97, 98, 99, 100, 101, 102]).getD (shrV .u8 (h.getD (i).toNat 0) 4).toNat 0), .int .u8 (([48, 49, 50, 51, 52, 53, 54, 55, 56, 57, 97, 98, 99, 100, 101, 102]).getD (bnd .u8 (h.getD (i).toNat 0) 15).toNat 0)]) 5) (fun r => .slice (some ⟨r, 0, none⟩) 2 2) (by kernel_rfl) (fun b6 w7 H => ?_)
    refine wc_appN H 1 (some 18) (A := A) (n := q.length) (c := c) (B := (some ⟨b6, 0, none⟩)) (mm := 2) (cc := 2) (t := 50) (e := 5) 1 1 (xs := (iv .u8 q)) (ys := (iv .u8 ([([48, 49, 50, 51, 52, 53, 54, 55, 56, 57, 97, 98, 99, 100, 101, 102]).getD (shrV .u8 (h.getD (i).toNat 0) 4).toNat 0, ([48, 49, 50, 51, 52, 53, 54, 55, 56, 57, 97, 98, 99, 100, 101, 102]).getD (bnd .u8 (h.getD (i).toNat 0) 15).toNat 0]))) (zs := (iv .u8 (q ++ [([48, 49, 50, 51, 52, 53, 54, 55, 56, 57, 97, 98, 99, 100, 101, 102]).getD (shrV .u8 (h.getD (i).toNat 0) 4).toNat 0, ([48, 49, 50, 51, 52, 53, 54, 55, 56, 57, 97, 98, 99, 100, 101, 102]).getD (bnd .u8 (h.getD (i).toNat 0) 15).toNat 0]))) ((q ++ [([48, 49, 50, 51, 52, 53, 54, 55, 56, 57, 97, 98, 99, 100, 101, 102]).getD (shrV .u8 (h.getD (i).toNat 0) 4).toNat 0, ([48, 49, 50, 51, 52, 53, 54, 55, 56, 57, 97, 98, 99, 100, 101, 102]).getD (bnd .u8 (h.getD (i).toNat 0) 15).toNat 0]).length) (by kernel_rfl) rfl (Rd.of_ent H (k := 0) (off := 0) (n := 2) rfl (by rfl)) (by simp [iv]; try first | omega | (simp only [List.length_append, List.length_cons, List.length_nil, List.length_set, List.length_replicate, List.length_drop, List.length_take, iv_length, Nat.zero_add] at * <;> omega)) (by first | exact iv_flat _ _ | simp [Value.oneCell']) (by first | omega | (simp only [List.length_append, List.length_cons, List.length_nil, List.length_set, List.length_replicate, List.length_drop, List.length_take, iv_length, Nat.zero_add] at * <;> omega)) (by simp [iv]) (by first | omega | (simp only [List.length_append, List.length_cons, List.length_nil, List.length_set, List.length_replicate, List.length_drop, List.length_take, iv_length, Nat.zero_add] at * <;> omega)) (fun A8 c9 w10 H => ?_)
    dsimp only [List.set] at H
    refine wc_run (T' := [(3, .slice A8 ((q ++ [([48, 49, 50, 51, 52, 53, 54, 55, 56, 57, 97, 98, 99, 100, 101, 102]).getD (shrV .u8 (h.getD (i).toNat 0) 4).toNat 0, ([48, 49, 50, 51, 52, 53, 54, 55, 56, 57, 97, 98, 99, 100, 101, 102]).getD (bnd .u8 (h.getD (i).toNat 0) 15).toNat 0]).length) c9), (6, .agg (iv .u8 h).toArray), (7, .int .i64 i)]) (L2 := (ol [])) 1 [3, 6, 7] (by kernel_rfl) ?_
    refine wc_nil rfl ?_
    refine n_np ?_
    refine n_blk ?_
    refine n_sq ?_
    refine wn_reg 2 (by kernel_rfl) ?_
    refine wc_run (T' := [(3, .slice A8 ((q ++ [([48, 49, 50, 51, 52, 53, 54, 55, 56, 57, 97, 98, 99, 100, 101, 102]).getD (shrV .u8 (h.getD (i).toNat 0) 4).toNat 0, ([48, 49, 50, 51, 52, 53, 54, 55, 56, 57, 97, 98, 99, 100, 101, 102]).getD (bnd .u8 (h.getD (i).toNat 0) 15).toNat 0]).length) c9), (6, .agg (iv .u8 h).toArray), (19, .int .i64 (IntKind.i64.wrap (i + 1)))]) (L2 := (rng 1 1)) 1 [3, 6, 19] (by kernel_rfl) ?_
    rw [wi64 (x := i + 1) (by first | omega | (simp only [List.length_append, List.length_cons, List.length_nil, List.length_set, List.length_replicate, List.length_drop, List.length_take, iv_length, Nat.zero_add] at * <;> omega)) (by first | omega | (simp only [List.length_append, List.length_cons, List.length_nil, List.length_set, List.length_replicate, List.length_drop, List.length_take, iv_length, Nat.zero_add] at * <;> omega))]
    refine wc_run (T' := [(3, .slice A8 ((q ++ [([48, 49, 50, 51, 52, 53, 54, 55, 56, 57, 97, 98, 99, 100, 101, 102]).getD (shrV .u8 (h.getD (i).toNat 0) 4).toNat 0, ([48, 49, 50, 51, 52, 53, 54, 55, 56, 57, 97, 98, 99, 100, 101, 102]).getD (bnd .u8 (h.getD (i).toNat 0) 15).toNat 0]).length) c9), (6, .agg (iv .u8 h).toArray), (7, .int .i64 (i + 1))]) (L2 := (rng 2 0)) 1 [3, 6, 7] (by kernel_rfl) ?_
    refine wc_nil rfl ?_
    refine round_end (i + 1, (q ++ [([48, 49, 50, 51, 52, 53, 54, 55, 56, 57, 97, 98, 99, 100, 101, 102]).getD (shrV .u8 (h.getD (i).toNat 0) 4).toNat 0, ([48, 49, 50, 51, 52, 53, 54, 55, 56, 57, 97, 98, 99, 100, 101, 102]).getD (bnd .u8 (h.getD (i).toNat 0) 15).toNat 0]), A8, c9) [3, 6, 7] (by kernel_rfl) ⟨H.sel [1, 2] (by decide) rfl, ?_⟩ ?_
    · obtain ⟨h1, h2, h3, h5⟩ := hi
      have e1 : (i + 1).toNat = i.toNat + 1 := by omega
      refine ⟨by omega, by omega, by simp only [List.length_append, List.length_cons, List.length_nil]; omega, ?_⟩
      rw [e1, itN, hxS, ← h5, h4, h15]; rfl
    · first | omega | (dsimp only; omega)
  · have hc4 := of_decide_eq_false hc4
    refine wn_exit 0 (by kernel_rfl) ?_
    refine e_sq ?_
    refine e_then ?_
    refine e_blk ?_
    refine n_sq ?_
    refine wn_seq (by kernel_rfl) ?_
    refine wn_regO [(1, 1)] 3 (by kernel_rfl) ?_
    refine wc_run (T' := [(20, .slice A q.length c)]) (L2 := (rng 1 2)) 1 [20] (by kernel_rfl) ?_
    refine wc_bs (A := A) (n := q.length) (c := c) (some 21) q (by kernel_rfl) (Rd.sl H 0 rfl) (by first | rfl | first | omega | (simp only [List.length_append, List.length_cons, List.length_nil, List.length_set, List.length_replicate, List.length_drop, List.length_take, iv_length, Nat.zero_add] at * <;> omega)) ?_
    refine wc_run (T' := [(2, .string (strOfNums q))]) (L2 := (rng 3 0)) 1 [2] (by kernel_rfl) ?_
    refine wc_nil rfl ?_
    refine n_sq ?_
    refine wn_ret (by kernel_rfl) ?_
    refine ret1 _ (Or.inr rfl) Try.results48 rfl ?_
    have he11 : (hexF h) = q := by
      obtain ⟨h1, h2, h3, h5⟩ := hi
      have e : i.toNat = 32 := by omega
      rw [h5, e, hexF]
    exact ⟨by first | (rw [he11]; done) | (rw [he11]; rfl), H.nil⟩

noncomputable def cd_proctorref01_Hex : Code := (Try.f49.body).getD .skip
theorem proctorref01_Hex (w : World) (h : List Int) (hh : h.length = 32) (hb : ∀ j, 0 ≤ h.getD j 0 ∧ h.getD j 0 < 256) :
    Calls Try.prog 49 #[.agg (iv .u8 h).toArray] w (fun e w' => e = .returned (.string (strOfNums (hexF h))) ∧ Hp no w w' []) := by
  refine enter (args := [_]) (c := cd_proctorref01_Hex) (N := 25) Try.func49 (by kernel_rfl) (by kernel_rfl) (by simp) ?_
  have H := Hp.start w
  refine wn_seq (by kernel_rfl) ?_
  refine wn_reg 2 (by kernel_rfl) ?_
  refine wc_new H (some 1) (row (iv .u8 h) 47) (fun r => .pointer (some ⟨r, 0, none⟩)) (by kernel_rfl) (fun b1 w2 H => ?_)
  refine wc_run (T' := [(1, .pointer (some ⟨b1, 0, none⟩))]) (L2 := (rng 2 0)) 1 [1] (by kernel_rfl) ?_
  refine wc_nil rfl ?_
  refine n_sq ?_
  refine wn_seq (by kernel_rfl) ?_
  refine wn_reg 1 (by kernel_rfl) ?_
  refine wc_run (T' := [(1, .pointer (some ⟨b1, 0, none⟩)), (3, .string (strOfNums []))]) (L2 := (rng 1 0)) 1 [1, 3] (by kernel_rfl) ?_
  refine wc_nil rfl ?_
  refine n_sq ?_
  refine wn_seq (by kernel_rfl) ?_
  refine wn_seq (by kernel_rfl) ?_
  refine wn_reg 1 (by kernel_rfl) ?_
  refine wc_run (T' := [(1, .pointer (some ⟨b1, 0, none⟩)), (3, .string (strOfNums [])), (4, .int .i64 0)]) (L2 := (rng 1 0)) 1 [1, 3, 4] (by kernel_rfl) ?_
  refine wc_nil rfl ?_
  refine n_sq ?_
  refine wn_block 0 (by kernel_rfl) ?_
  refine wn_loop (fun ((i, q) : Int × List Int) => [(1, .pointer (some ⟨b1, 0, none⟩)), (3, .string (strOfNums q)), (4, .int .i64 i)]) (fun ((i, q) : Int × List Int) w' => Hp no w w' [.bk b1 (row (iv .u8 h) 47)] ∧ 0 ≤ i ∧ i ≤ 32 ∧ q.length = 2 * i.toNat ∧ q = itN (hxS h) i.toNat []) (fun ((i, q) : Int × List Int) => (32 - i).toNat) ((0 : Int), []) [1, 3, 4] (by kernel_rfl) rfl ⟨H, by simp [itN]⟩ ?_
  rintro ⟨i, q⟩ w3 ⟨H, hi⟩
  try dsimp only at H hi
  refine wn_pick (T' := [(1, .pointer (some ⟨b1, 0, none⟩)), (3, .string (strOfNums q)), (4, .int .i64 i)]) [1, 3, 4] (by kernel_rfl) ?_
  have hx := hb i.toNat
  refine wn_seq (by kernel_rfl) ?_
  refine wn_seq (by kernel_rfl) ?_
  refine wn_reg 2 (by kernel_rfl) ?_
  refine wc_run (T' := [(1, .pointer (some ⟨b1, 0, none⟩)), (3, .string (strOfNums q)), (4, .int .i64 i), (6, .bool (decide (i < (32 : Int))))]) (L2 := (rng 2 0)) 2 [1, 3, 4, 6] (by kernel_rfl) ?_
  refine wc_nil rfl ?_
  refine n_sq ?_
  refine wn_cond (.tmp 6) (decide (i < (32 : Int))) (by kernel_rfl) rfl (fun hc4 => ?_) (fun hc4 => ?_)
  · have hc4 := of_decide_eq_true hc4
    refine wn_skip (by kernel_rfl) ?_
    refine n_sq ?_
    refine wn_seq (by kernel_rfl) ?_
    refine wn_block 1 (by kernel_rfl) ?_
    refine wn_regD [] (ol [0, 1, 2, 3, 4, 5, 6, 7, 8, 9, 10, 11, 12, 13, 14, 15]) (by kernel_rfl) H (fun w5 H => ?_)
    refine wc_run (T' := [(1, .pointer (some ⟨b1, 0, none⟩)), (4, .int .i64 i), (9, .string (strOfNums q)), (10, .int .i64 i)]) (L2 := (ol [2, 3, 4, 5, 6, 7, 8, 9, 10, 11, 12, 13, 14, 15])) 2 [1, 4, 9, 10] (by kernel_rfl) ?_
    refine wc_ix (b := b1) (off := 0) (o' := i.toNat) (some 11) (some ⟨b1, 0, none⟩) 32 1 i (by kernel_rfl) rfl (by omega) (by omega) (by omega) ?_
    refine wc_ld (b := b1) (off := i.toNat) (some 12) 5 (.int .u8 (h.getD i.toNat 0)) (by kernel_rfl) (Ld.ent1 H 0 rfl (by kernel_rfl) (iv_get (by have h : h.length = _ := hh; omega))) ?_
    refine wc_run (T' := [(1, .pointer (some ⟨b1, 0, none⟩)), (4, .int .i64 i), (9, .string (strOfNums q)), (13, .int .u8 (IntKind.u8.wrap ((h.getD i.toNat 0).tdiv 16)))]) (L2 := (ol [5, 6, 7, 8, 9, 10, 11, 12, 13, 14, 15])) 1 [1, 4, 9, 13] (by kernel_rfl) ?_
    rw [Int.tdiv_eq_ediv_of_nonneg (a := (h.getD i.toNat 0)) (b := 16) (by first | omega | (simp only [List.length_append, List.length_cons, List.length_nil, List.length_set, List.length_replicate, List.length_drop, List.length_take, iv_length, Nat.zero_add] at * <;> omega))]
    rw [wu8 (x := (h.getD i.toNat 0) / 16) (by first | omega | (simp only [List.length_append, List.length_cons, List.length_nil, List.length_set, List.length_replicate, List.length_drop, List.length_take, iv_length, Nat.zero_add] at * <;> omega)) (by first | omega | (simp only [List.length_append, List.length_cons, List.length_nil, List.length_set, List.length_replicate, List.length_drop, List.length_take, iv_length, Nat.zero_add] at * <;> omega))]
    refine wc_isB (some 14) ([48, 49, 50, 51, 52, 53, 54, 55, 56, 57, 97, 98, 99, 100, 101, 102]) ((h.getD i.toNat 0) / 16) (by kernel_rfl) (by first | omega | (simp only [List.length_append, List.length_cons, List.length_nil, List.length_set, List.length_replicate, List.length_drop, List.length_take, iv_length, Nat.zero_add] at * <;> omega)) (by first | omega | (simp only [List.length_append, List.length_cons, List.length_nil, List.length_set, List.length_replicate, List.length_drop, List.length_take, iv_length, Nat.zero_add] at * <;> omega)) (by exact dg_r _) ?_
    refine wc_by (some 15) (([48, 49, 50, 51, 52, 53, 54, 55, 56, 57, 97, 98, 99, 100, 101, 102]).getD ((h.getD i.toNat 0) / 16).toNat 0) (by kernel_rfl) (by exact dg_l _) ?_
    refine wc_run (T' := [(1, .pointer (some ⟨b1, 0, none⟩)), (4, .int .i64 i), (9, .string (strOfNums q)), (15, .string (strOfNums ([([48, 49, 50, 51, 52, 53, 54, 55, 56, 57, 97, 98, 99, 100, 101, 102]).getD ((h.getD i.toNat 0) / 16).toNat 0]))), (16, .int .i64 i)]) (L2 := (ol [8, 9, 10, 11, 12, 13, 14, 15])) 1 [1, 4, 9, 15, 16] (by kernel_rfl) ?_
    refine wc_ix (b := b1) (off := 0) (o' := i.toNat) (some 17) (some ⟨b1, 0, none⟩) 32 1 i (by kernel_rfl) rfl (by omega) (by omega) (by omega) ?_
    refine wc_ld (b := b1) (off := i.toNat) (some 18) 5 (.int .u8 (h.getD i.toNat 0)) (by kernel_rfl) (Ld.ent1 H 0 rfl (by kernel_rfl) (iv_get (by have h : h.length = _ := hh; omega))) ?_
    refine wc_run (T' := [(1, .pointer (some ⟨b1, 0, none⟩)), (4, .int .i64 i), (9, .string (strOfNums q)), (15, .string (strOfNums ([([48, 49, 50, 51, 52, 53, 54, 55, 56, 57, 97, 98, 99, 100, 101, 102]).getD ((h.getD i.toNat 0) / 16).toNat 0]))), (19, .int .u8 ((h.getD i.toNat 0).tmod 16))]) (L2 := (ol [11, 12, 13, 14, 15])) 1 [1, 4, 9, 15, 19] (by kernel_rfl) ?_
    rw [Int.tmod_eq_emod_of_nonneg (a := (h.getD i.toNat 0)) (b := 16) (by first | omega | (simp only [List.length_append, List.length_cons, List.length_nil, List.length_set, List.length_replicate, List.length_drop, List.length_take, iv_length, Nat.zero_add] at * <;> omega))]
    refine wc_isB (some 20) ([48, 49, 50, 51, 52, 53, 54, 55, 56, 57, 97, 98, 99, 100, 101, 102]) ((h.getD i.toNat 0) % 16) (by kernel_rfl) (by first | omega | (simp only [List.length_append, List.length_cons, List.length_nil, List.length_set, List.length_replicate, List.length_drop, List.length_take, iv_length, Nat.zero_add] at * <;> omega)) (by first | omega | (simp only [List.length_append, List.length_cons, List.length_nil, List.length_set, List.length_replicate, List.length_drop, List.length_take, iv_length, Nat.zero_add] at * <;> omega)) (by exact dg_r _) ?_
    refine wc_by (some 21) (([48, 49, 50, 51, 52, 53, 54, 55, 56, 57, 97, 98, 99, 100, 101, 102]).getD ((h.getD i.toNat 0) % 16).toNat 0) (by kernel_rfl) (by exact dg_l _) ?_
    refine wc_sc (some 22) ([([48, 49, 50, 51, 52, 53, 54, 55, 56, 57, 97, 98, 99, 100, 101, 102]).getD ((h.getD i.toNat 0) / 16).toNat 0]) ([([48, 49, 50, 51, 52, 53, 54, 55, 56, 57, 97, 98, 99, 100, 101, 102]).getD ((h.getD i.toNat 0) % 16).toNat 0]) (by kernel_rfl) (by first | omega | (simp only [List.length_append, List.length_cons, List.length_nil, List.length_set, List.length_replicate, List.length_drop, List.length_take, iv_length, Nat.zero_add] at * <;> omega)) ?_
    refine wc_sc (some 23) q (([([48, 49, 50, 51, 52, 53, 54, 55, 56, 57, 97, 98, 99, 100, 101, 102]).getD ((h.getD i.toNat 0) / 16).toNat 0]) ++ ([([48, 49, 50, 51, 52, 53, 54, 55, 56, 57, 97, 98, 99, 100, 101, 102]).getD ((h.getD i.toNat 0) % 16).toNat 0])) (by kernel_rfl) (by first | omega | (simp only [List.length_append, List.length_cons, List.length_nil, List.length_set, List.length_replicate, List.length_drop, List.length_take, iv_length, Nat.zero_add] at * <;> omega)) ?_
    refine wc_run (T' := [(1, .pointer (some ⟨b1, 0, none⟩)), (3, .string (strOfNums (q ++ (([([48, 49, 50, 51, 52, 53, 54, 55, 56, 57, 97, 98, 99, 100, 101, 102]).getD ((h.getD i.toNat 0) / 16).toNat 0]) ++ ([([48, 49, 50, 51, 52, 53, 54, 55, 56, 57, 97, 98, 99, 100, 101, 102]).getD ((h.getD i.toNat 0) % 16).toNat 0]))))), (4, .int .i64 i)]) (L2 := (ol [])) 1 [1, 3, 4] (by kernel_rfl) ?_
    refine wc_nil rfl ?_
    refine n_np ?_
    refine n_blk ?_
    refine n_sq ?_
    refine wn_reg 3 (by kernel_rfl) ?_
    refine wc_run (T' := [(1, .pointer (some ⟨b1, 0, none⟩)), (3, .string (strOfNums (q ++ (([([48, 49, 50, 51, 52, 53, 54, 55, 56, 57, 97, 98, 99, 100, 101, 102]).getD ((h.getD i.toNat 0) / 16).toNat 0]) ++ ([([48, 49, 50, 51, 52, 53, 54, 55, 56, 57, 97, 98, 99, 100, 101, 102]).getD ((h.getD i.toNat 0) % 16).toNat 0]))))), (8, .int .i64 (IntKind.i64.wrap (i + 1)))]) (L2 := (rng 2 1)) 2 [1, 3, 8] (by kernel_rfl) ?_
    rw [wi64 (x := i + 1) (by first | omega | (simp only [List.length_append, List.length_cons, List.length_nil, List.length_set, List.length_replicate, List.length_drop, List.length_take, iv_length, Nat.zero_add] at * <;> omega)) (by first | omega | (simp only [List.length_append, List.length_cons, List.length_nil, List.length_set, List.length_replicate, List.length_drop, List.length_take, iv_length, Nat.zero_add] at * <;> omega))]
    refine wc_run (T' := [(1, .pointer (some ⟨b1, 0, none⟩)), (3, .string (strOfNums (q ++ (([([48, 49, 50, 51, 52, 53, 54, 55, 56, 57, 97, 98, 99, 100, 101, 102]).getD ((h.getD i.toNat 0) / 16).toNat 0]) ++ ([([48, 49, 50, 51, 52, 53, 54, 55, 56, 57, 97, 98, 99, 100, 101, 102]).getD ((h.getD i.toNat 0) % 16).toNat 0]))))), (4, .int .i64 (i + 1))]) (L2 := (rng 3 0)) 1 [1, 3, 4] (by kernel_rfl) ?_
    refine wc_nil rfl ?_
    refine round_end (i + 1, (q ++ (([([48, 49, 50, 51, 52, 53, 54, 55, 56, 57, 97, 98, 99, 100, 101, 102]).getD ((h.getD i.toNat 0) / 16).toNat 0]) ++ ([([48, 49, 50, 51, 52, 53, 54, 55, 56, 57, 97, 98, 99, 100, 101, 102]).getD ((h.getD i.toNat 0) % 16).toNat 0])))) [1, 3, 4] (by kernel_rfl) ⟨H, ?_⟩ ?_
    · obtain ⟨h1, h2, h3, h5⟩ := hi
      have e1 : (i + 1).toNat = i.toNat + 1 := by omega
      refine ⟨by omega, by omega, by simp only [List.length_append, List.length_cons, List.length_nil]; omega, ?_⟩
      rw [e1, itN, hxS, ← h5]; rfl
    · first | omega | (dsimp only; omega)
  · have hc4 := of_decide_eq_false hc4
    refine wn_exit 0 (by kernel_rfl) ?_
    refine e_sq ?_
    refine e_then ?_
    refine e_blk ?_
    refine n_sq ?_
    refine wn_seq (by kernel_rfl) ?_
    refine wn_reg 2 (by kernel_rfl) ?_
    refine wc_run (T' := [(2, .string (strOfNums q))]) (L2 := (rng 2 0)) 2 [2] (by kernel_rfl) ?_
    refine wc_nil rfl ?_
    refine n_sq ?_
    refine wn_ret (by kernel_rfl) ?_
    refine ret1 _ (Or.inr rfl) Try.results49 rfl ?_
    have he6 : (hexF h) = q := by
      obtain ⟨h1, h2, h3, h5⟩ := hi
      have e : i.toNat = 32 := by omega
      rw [h5, e, hexF]
    exact ⟨by first | (rw [he6]; done) | (rw [he6]; rfl), H.nil⟩

noncomputable def cd_sha_half : Code := (Try.f59.body).getD .skip
theorem sha_half (w : World) (c : Int) (hc : 0 ≤ c ∧ c < 256) :
    Calls Try.prog 59 #[.int .u8 c] w (fun e w' => e = .returned (.tuple #[.int .u8 (hfV c), .bool (hfB c)]) ∧ Hp no w w' []) := by
  refine enter (args := [_]) (c := cd_sha_half) (N := 23) Try.func59 (by kernel_rfl) (by kernel_rfl) (by simp) ?_
  have H := Hp.start w
  refine wn_seq (by kernel_rfl) ?_
  refine wn_reg 2 (by kernel_rfl) ?_
  refine wc_run (T' := [(0, .int .u8 c)]) (L2 := (rng 2 0)) 2 [0] (by kernel_rfl) ?_
  refine wc_nil rfl ?_
  refine n_sq ?_
  refine wn_seq (by kernel_rfl) ?_
  refine wn_block 0 (by kernel_rfl) ?_
  refine wn_seq (by kernel_rfl) ?_
  refine wn_reg 7 (by kernel_rfl) ?_
  refine wc_run (T' := [(0, .int .u8 c), (7, .bool (decide (c ≥ (48 : Int))))]) (L2 := (rng 3 4)) 3 [0, 7] (by kernel_rfl) ?_
  refine wc_if (decide (c ≥ (48 : Int))) (rng 6 1) ([(0, .int .u8 c), (10, .bool ((decide (c ≥ (48 : Int))) && (decide (c ≤ (57 : Int)))))]) (fun hg1 K => ?_) (fun hg1 K => ?_) ?_
  · rw [hg1] at K ⊢
    have hg1 := of_decide_eq_true hg1
    refine wc_run (T' := [(0, .int .u8 c), (10, .bool (decide (c ≤ (57 : Int))))]) (L2 := (rng 6 1)) 3 [0, 10] (by kernel_rfl) ?_
    try simp only [Bool.true_and, Bool.false_and, Bool.true_or, Bool.false_or, cond_true, cond_false] at K
    exact K
  · rw [hg1] at K ⊢
    have hg1 := of_decide_eq_false hg1
    refine wc_run (T' := [(0, .int .u8 c), (10, .bool false)]) (L2 := (rng 6 1)) 3 [0, 10] (by kernel_rfl) ?_
    try simp only [Bool.true_and, Bool.false_and, Bool.true_or, Bool.false_or, cond_true, cond_false] at K
    exact K
  refine wc_run (T' := [(0, .int .u8 c), (4, .bool ((decide (c ≥ (48 : Int))) && (decide (c ≤ (57 : Int)))))]) (L2 := (rng 7 0)) 1 [0, 4] (by kernel_rfl) ?_
  refine wc_nil rfl ?_
  refine n_sq ?_
  refine wn_cond (.tmp 4) ((decide (c ≥ (48 : Int))) && (decide (c ≤ (57 : Int)))) (by kernel_rfl) rfl (fun hc2 => ?_) (fun hc2 => ?_)
  · try simp only [Bool.and_eq_true, Bool.or_eq_true, Bool.and_eq_false_iff, Bool.or_eq_false_iff, decide_eq_true_eq, decide_eq_false_iff_not, Bool.not_eq_true', Bool.not_eq_false', beq_iff_eq, bne_iff_ne, ne_eq, beq_eq_false_iff_ne, bne_eq_false_iff_eq, Decidable.not_not, cond_true, cond_false] at hc2
    refine wn_seq (by kernel_rfl) ?_
    refine wn_reg 4 (by kernel_rfl) ?_
    refine wc_run (T' := [(12, .int .u8 (IntKind.u8.wrap (c - 48)))]) (L2 := (rng 2 2)) 2 [12] (by kernel_rfl) ?_
    rw [wu8 (x := c - 48) (by first | omega | (simp only [List.length_append, List.length_cons, List.length_nil, List.length_set, List.length_replicate, List.length_drop, List.length_take, iv_length, Nat.zero_add] at * <;> omega)) (by first | omega | (simp only [List.length_append, List.length_cons, List.length_nil, List.length_set, List.length_replicate, List.length_drop, List.length_take, iv_length, Nat.zero_add] at * <;> omega))]
    refine wc_run (T' := [(2, .int .u8 (c - 48)), (3, .bool true)]) (L2 := (rng 4 0)) 2 [2, 3] (by kernel_rfl) ?_
    refine wc_nil rfl ?_
    refine n_sq ?_
    refine wn_ret (by kernel_rfl) ?_
    refine r_blk ?_
    refine r_sq ?_
    refine ret2 _ (Or.inr rfl) Try.results59 rfl rfl ?_
    have he3 : (hfV c) = c - 48 := by
      unfold hfV; rw [if_pos (by omega)]
    have he4 : (hfB c) = true := by
      unfold hfB; simp; omega
    exact ⟨by first | (rw [he3, he4]; done) | (rw [he3, he4]; rfl), H.nil⟩
  · try simp only [Bool.and_eq_true, Bool.or_eq_true, Bool.and_eq_false_iff, Bool.or_eq_false_iff, decide_eq_true_eq, decide_eq_false_iff_not, Bool.not_eq_true', Bool.not_eq_false', beq_iff_eq, bne_iff_ne, ne_eq, beq_eq_false_iff_ne, bne_eq_false_iff_eq, Decidable.not_not, cond_true, cond_false] at hc2
    refine wn_seq (by kernel_rfl) ?_
    refine wn_reg 7 (by kernel_rfl) ?_
    refine wc_run (T' := [(0, .int .u8 c), (16, .bool (decide (c ≥ (97 : Int))))]) (L2 := (rng 3 4)) 3 [0, 16] (by kernel_rfl) ?_
    refine wc_if (decide (c ≥ (97 : Int))) (rng 6 1) ([(0, .int .u8 c), (19, .bool ((decide (c ≥ (97 : Int))) && (decide (c ≤ (102 : Int)))))]) (fun hg5 K => ?_) (fun hg5 K => ?_) ?_
    · rw [hg5] at K ⊢
      have hg5 := of_decide_eq_true hg5
      refine wc_run (T' := [(0, .int .u8 c), (19, .bool (decide (c ≤ (102 : Int))))]) (L2 := (rng 6 1)) 3 [0, 19] (by kernel_rfl) ?_
      try simp only [Bool.true_and, Bool.false_and, Bool.true_or, Bool.false_or, cond_true, cond_false] at K
      exact K
    · rw [hg5] at K ⊢
      have hg5 := of_decide_eq_false hg5
      refine wc_run (T' := [(0, .int .u8 c), (19, .bool false)]) (L2 := (rng 6 1)) 3 [0, 19] (by kernel_rfl) ?_
      try simp only [Bool.true_and, Bool.false_and, Bool.true_or, Bool.false_or, cond_true, cond_false] at K
      exact K
    refine wc_run (T' := [(0, .int .u8 c), (13, .bool ((decide (c ≥ (97 : Int))) && (decide (c ≤ (102 : Int)))))]) (L2 := (rng 7 0)) 1 [0, 13] (by kernel_rfl) ?_
    refine wc_nil rfl ?_
    refine n_sq ?_
    refine wn_cond (.tmp 13) ((decide (c ≥ (97 : Int))) && (decide (c ≤ (102 : Int)))) (by kernel_rfl) rfl (fun hc6 => ?_) (fun hc6 => ?_)
    · try simp only [Bool.and_eq_true, Bool.or_eq_true, Bool.and_eq_false_iff, Bool.or_eq_false_iff, decide_eq_true_eq, decide_eq_false_iff_not, Bool.not_eq_true', Bool.not_eq_false', beq_iff_eq, bne_iff_ne, ne_eq, beq_eq_false_iff_ne, bne_eq_false_iff_eq, Decidable.not_not, cond_true, cond_false] at hc6
      refine wn_seq (by kernel_rfl) ?_
      refine wn_reg 5 (by kernel_rfl) ?_
      refine wc_run (T' := [(21, .int .u8 (IntKind.u8.wrap (c - 97)))]) (L2 := (rng 2 3)) 2 [21] (by kernel_rfl) ?_
      rw [wu8 (x := c - 97) (by first | omega | (simp only [List.length_append, List.length_cons, List.length_nil, List.length_set, List.length_replicate, List.length_drop, List.length_take, iv_length, Nat.zero_add] at * <;> omega)) (by first | omega | (simp only [List.length_append, List.length_cons, List.length_nil, List.length_set, List.length_replicate, List.length_drop, List.length_take, iv_length, Nat.zero_add] at * <;> omega))]
      refine wc_run (T' := [(22, .int .u8 (IntKind.u8.wrap ((c - 97) + 10)))]) (L2 := (rng 3 2)) 1 [22] (by kernel_rfl) ?_
      rw [wu8 (x := (c - 97) + 10) (by first | omega | (simp only [List.length_append, List.length_cons, List.length_nil, List.length_set, List.length_replicate, List.length_drop, List.length_take, iv_length, Nat.zero_add] at * <;> omega)) (by first | omega | (simp only [List.length_append, List.length_cons, List.length_nil, List.length_set, List.length_replicate, List.length_drop, List.length_take, iv_length, Nat.zero_add] at * <;> omega))]
      refine wc_run (T' := [(2, .int .u8 ((c - 97) + 10)), (3, .bool true)]) (L2 := (rng 5 0)) 2 [2, 3] (by kernel_rfl) ?_
      refine wc_nil rfl ?_
      refine n_sq ?_
      refine wn_ret (by kernel_rfl) ?_
      refine r_blk ?_
      refine r_sq ?_
      refine ret2 _ (Or.inr rfl) Try.results59 rfl rfl ?_
      have he7 : (hfV c) = (c - 97) + 10 := by
        unfold hfV; rw [if_neg (by omega), if_pos (by omega)]; omega
      have he8 : (hfB c) = true := by
        unfold hfB; simp; omega
      exact ⟨by first | (rw [he7, he8]; done) | (rw [he7, he8]; rfl), H.nil⟩
    · try simp only [Bool.and_eq_true, Bool.or_eq_true, Bool.and_eq_false_iff, Bool.or_eq_false_iff, decide_eq_true_eq, decide_eq_false_iff_not, Bool.not_eq_true', Bool.not_eq_false', beq_iff_eq, bne_iff_ne, ne_eq, beq_eq_false_iff_ne, bne_eq_false_iff_eq, Decidable.not_not, cond_true, cond_false] at hc6
      refine wn_skip (by kernel_rfl) ?_
      refine n_blk ?_
      refine n_sq ?_
      refine wn_seq (by kernel_rfl) ?_
      refine wn_reg 2 (by kernel_rfl) ?_
      refine wc_run (T' := [(2, .int .u8 0), (3, .bool false)]) (L2 := (rng 2 0)) 2 [2, 3] (by kernel_rfl) ?_
      refine wc_nil rfl ?_
      refine n_sq ?_
      refine wn_ret (by kernel_rfl) ?_
      refine ret2 _ (Or.inr rfl) Try.results59 rfl rfl ?_
      have he9 : (hfV c) = (0 : Int) := by
        unfold hfV; rw [if_neg (by omega), if_neg (by omega)]
      have he10 : (hfB c) = false := by
        unfold hfB; simp; omega
      exact ⟨by first | (rw [he9, he10]; done) | (rw [he9, he10]; rfl), H.nil⟩

noncomputable def cd_sha_Unhex : Code := (Try.f42.body).getD .skip
theorem sha_Unhex (w : World) (s : List Int) (hs : ∀ x ∈ s, 0 ≤ x ∧ x < 256) :
    Calls Try.prog 42 #[.string (strOfNums s)] w (fun e w' => e = .returned (.tuple #[.agg (iv .u8 (unH s)).toArray, .int .i64 (unE s)]) ∧ Hp no w w' [] ∧ (unH s).length = 32) := by
  have hsg := get_of_mem (p := fun x => 0 ≤ x ∧ x < 256) (by omega) hs
  have hF : unOk s = false → unH s = List.replicate 32 0 ∧ unE s = 8 := fun h => ⟨by unfold unH; rw [if_neg (by rw [h]; decide)], by unfold unE; rw [if_neg (by rw [h]; decide)]⟩
  have hT : unOk s = true → unH s = unN s 64 ∧ unE s = 0 := fun h => ⟨by unfold unH; rw [if_pos h], by unfold unE; rw [if_pos h]⟩
  have hL : s.length ≠ 64 → unOk s = false := fun h => by unfold unOk; rw [decide_eq_false h]; rfl
  refine enter (args := [_]) (c := cd_sha_Unhex) (N := 39) Try.func42 (by kernel_rfl) (by kernel_rfl) (by simp) ?_
  have H := Hp.start w
  refine wn_seq (by kernel_rfl) ?_
  refine wn_reg 2 (by kernel_rfl) ?_
  refine wc_new H (some 2) (row (iv .u8 (List.replicate 32 0)) 47) (fun r => .pointer (some ⟨r, 0, none⟩)) (by kernel_rfl) (fun b1 w2 H => ?_)
  refine wc_run (T' := [(0, .string (strOfNums s)), (2, .pointer (some ⟨b1, 0, none⟩))]) (L2 := (rng 2 0)) 1 [0, 2] (by kernel_rfl) ?_
  refine wc_nil rfl ?_
  refine n_sq ?_
  refine wn_seq (by kernel_rfl) ?_
  refine wn_reg 1 (by kernel_rfl) ?_
  refine wc_new H (some 4) (row (iv .u8 (List.replicate 32 0)) 47) (fun r => .pointer (some ⟨r, 0, none⟩)) (by kernel_rfl) (fun b3 w4 H => ?_)
  refine wc_nil rfl ?_
  refine n_sq ?_
  refine wn_seq (by kernel_rfl) ?_
  refine wn_seq (by kernel_rfl) ?_
  refine wn_reg 3 (by kernel_rfl) ?_
  refine wc_run (T' := [(0, .string (strOfNums s)), (2, .pointer (some ⟨b1, 0, none⟩)), (4, .pointer (some ⟨b3, 0, none⟩)), (8, .string (strOfNums s))]) (L2 := (rng 1 2)) 1 [0, 2, 4, 8] (by kernel_rfl) ?_
  refine wc_ln (some 9) s (by kernel_rfl) ?_
  refine wc_run (T' := [(0, .string (strOfNums s)), (2, .pointer (some ⟨b1, 0, none⟩)), (4, .pointer (some ⟨b3, 0, none⟩)), (10, .bool ((↑s.length : Int) != (64 : Int)))]) (L2 := (rng 3 0)) 1 [0, 2, 4, 10] (by kernel_rfl) ?_
  refine wc_nil rfl ?_
  refine n_sq ?_
  refine wn_cond (.tmp 10) ((↑s.length : Int) != (64 : Int)) (by kernel_rfl) rfl (fun hc5 => ?_) (fun hc5 => ?_)
  · have hc5 := bneT hc5
    refine wn_seq (by kernel_rfl) ?_
    refine wn_reg 3 (by kernel_rfl) ?_
    refine wc_run (T' := [(2, .pointer (some ⟨b1, 0, none⟩)), (11, .agg (iv .u8 (List.replicate 32 0)).toArray)]) (L2 := (rng 1 2)) 1 [2, 11] (by kernel_rfl) ?_
    refine wc_st (b := b1) (off := 0) (Tb := 47) (vs := (iv .u8 (List.replicate 32 0))) (cs' := (iv .u8 (List.replicate 32 0))) H 1 47 (.agg (iv .u8 (List.replicate 32 0)).toArray) 32 (by kernel_rfl) rfl rfl (by exact (iv_length .u8 (List.replicate 32 0)).trans List.length_replicate) (by have h := (iv_length .u8 (List.replicate 32 0)).trans List.length_replicate; omega) (by exact iv_flat _ _) (by exact blit_all _ _ ((show (iv .u8 (List.replicate 32 0) : List Value).length = 32 from (iv_length .u8 (List.replicate 32 0)).trans List.length_replicate).trans (show (iv .u8 (List.replicate 32 0) : List Value).length = 32 from (iv_length .u8 (List.replicate 32 0)).trans List.length_replicate).symm)) (fun w6 H => ?_)
    dsimp only [List.set] at H
    refine wc_run (T' := [(2, .pointer (some ⟨b1, 0, none⟩)), (3, .int .i64 8)]) (L2 := (rng 3 0)) 1 [2, 3] (by kernel_rfl) ?_
    refine wc_nil rfl ?_
    refine n_sq ?_
    refine wn_ret (by kernel_rfl) ?_
    refine r_sq ?_
    refine ret2 _ (Or.inr rfl) Try.results42 ⟨_, _, rfl, Ld.entW H 1 (n := 32) rfl (by kernel_rfl) (by exact (iv_length .u8 (List.replicate 32 0)).trans List.length_replicate)⟩ rfl ?_
    have he7 : (unH s) = (List.replicate 32 0) := by
      exact (hF (hL (by omega))).1
    have he8 : (unE s) = (8 : Int) := by
      exact (hF (hL (by omega))).2
    exact ⟨by first | (rw [he7, he8]; done) | (rw [he7, he8]; rfl), H.nil, by exact unH_length s⟩
  · have hc5 := bneF hc5
    refine wn_skip (by kernel_rfl) ?_
    refine n_sq ?_
    refine wn_seq (by kernel_rfl) ?_
    refine wn_seq (by kernel_rfl) ?_
    refine wn_reg 3 (by kernel_rfl) ?_
    refine wc_run (T' := [(0, .string (strOfNums s)), (2, .pointer (some ⟨b1, 0, none⟩)), (4, .pointer (some ⟨b3, 0, none⟩)), (12, .string (strOfNums s))]) (L2 := (rng 1 2)) 1 [0, 2, 4, 12] (by kernel_rfl) ?_
    refine wc_ln (some 13) s (by kernel_rfl) ?_
    refine wc_run (T' := [(0, .string (strOfNums s)), (2, .pointer (some ⟨b1, 0, none⟩)), (4, .pointer (some ⟨b3, 0, none⟩)), (13, .int .i64 (↑s.length : Int)), (14, .int .i64 0)]) (L2 := (rng 3 0)) 1 [0, 2, 4, 13, 14] (by kernel_rfl) ?_
    refine wc_nil rfl ?_
    refine n_sq ?_
    refine wn_block 0 (by kernel_rfl) ?_
    refine wn_loop (fun ((i, q) : Int × List Int) => [(0, .string (strOfNums s)), (2, .pointer (some ⟨b1, 0, none⟩)), (4, .pointer (some ⟨b3, 0, none⟩)), (13, .int .i64 (↑s.length : Int)), (14, .int .i64 i)]) (fun ((i, q) : Int × List Int) w' => Hp no w w' [.bk b3 (row (iv .u8 q) 47), .bk b1 (row (iv .u8 (List.replicate 32 0)) 47)] ∧ 0 ≤ i ∧ i ≤ 64 ∧ q = unN s i.toNat ∧ ∀ j : Nat, j < i.toNat → hfB (s.getD j 0) = true) (fun ((i, q) : Int × List Int) => (64 - i).toNat) ((0 : Int), (List.replicate 32 0)) [0, 2, 4, 13, 14] (by kernel_rfl) rfl ⟨H, by simp [unN, itN]⟩ ?_
    rintro ⟨i, q⟩ w9 ⟨H, hi⟩
    try dsimp only at H hi
    refine wn_pick (T' := [(0, .string (strOfNums s)), (2, .pointer (some ⟨b1, 0, none⟩)), (4, .pointer (some ⟨b3, 0, none⟩)), (13, .int .i64 (↑s.length : Int)), (14, .int .i64 i)]) [0, 2, 4, 13, 14] (by kernel_rfl) ?_
    have hql : q.length = 32 := by rw [hi.2.2.1]; exact unN_length _ _
    have hqr := get_of_mem (p := fun x => 0 ≤ x ∧ x < 256) (l := q) (by omega) (by rw [hi.2.2.1]; exact unN_range _ _)
    have hqr' := hqr (i / 2).toNat
    have hv := hfV_r (s.getD i.toNat 0)
    refine wn_seq (by kernel_rfl) ?_
    refine wn_reg 1 (by kernel_rfl) ?_
    refine wc_run (T' := [(0, .string (strOfNums s)), (2, .pointer (some ⟨b1, 0, none⟩)), (4, .pointer (some ⟨b3, 0, none⟩)), (13, .int .i64 (↑s.length : Int)), (14, .int .i64 i), (15, .bool (decide (i < (↑s.length : Int))))]) (L2 := (rng 1 0)) 1 [0, 2, 4, 13, 14, 15] (by kernel_rfl) ?_
    refine wc_nil rfl ?_
    refine n_sq ?_
    refine wn_seq (by kernel_rfl) ?_
    refine wn_cond (.tmp 15) (decide (i < (↑s.length : Int))) (by kernel_rfl) rfl (fun hc10 => ?_) (fun hc10 => ?_)
    · have hc10 := of_decide_eq_true hc10
      refine wn_skip (by kernel_rfl) ?_
      refine n_sq ?_
      refine wn_seq (by kernel_rfl) ?_
      refine wn_block 1 (by kernel_rfl) ?_
      refine wn_seq (by kernel_rfl) ?_
      refine wn_reg 2 (by kernel_rfl) ?_
      refine wc_run (T' := [(0, .string (strOfNums s)), (2, .pointer (some ⟨b1, 0, none⟩)), (4, .pointer (some ⟨b3, 0, none⟩)), (5, .int .i64 i), (13, .int .i64 (↑s.length : Int)), (14, .int .i64 i)]) (L2 := (rng 2 0)) 2 [0, 2, 4, 5, 13, 14] (by kernel_rfl) ?_
      refine wc_nil rfl ?_
      refine n_sq ?_
      refine wn_seq (by kernel_rfl) ?_
      refine wn_reg 9 (by kernel_rfl) ?_
      refine wc_run (T' := [(0, .string (strOfNums s)), (2, .pointer (some ⟨b1, 0, none⟩)), (4, .pointer (some ⟨b3, 0, none⟩)), (5, .int .i64 i), (13, .int .i64 (↑s.length : Int)), (14, .int .i64 i), (18, .string (strOfNums s)), (19, .int .i64 i)]) (L2 := (rng 2 7)) 2 [0, 2, 4, 5, 13, 14, 18, 19] (by kernel_rfl) ?_
      refine wc_isB (some 20) s i (by kernel_rfl) (by first | omega | (simp only [List.length_append, List.length_cons, List.length_nil, List.length_set, List.length_replicate, List.length_drop, List.length_take, iv_length, Nat.zero_add] at * <;> omega)) (by first | omega | (simp only [List.length_append, List.length_cons, List.length_nil, List.length_set, List.length_replicate, List.length_drop, List.length_take, iv_length, Nat.zero_add] at * <;> omega)) (by exact hsg _) ?_
      refine wc_call (some 21) (by kernel_rfl) (sha_half w9 (s.getD i.toNat 0) (by first | with_reducible assumption | omega | (simp_all; done))) ?_
      rintro _ w11 ⟨rfl, H1⟩
      refine ⟨_, rfl, fun _ => H1.keep, ?_⟩
      replace H := H.call H1
      simp only [List.nil_append] at H
      refine wc_run (T' := [(0, .string (strOfNums s)), (2, .pointer (some ⟨b1, 0, none⟩)), (4, .pointer (some ⟨b3, 0, none⟩)), (5, .int .i64 i), (6, .int .u8 (hfV (s.getD i.toNat 0))), (7, .bool (hfB (s.getD i.toNat 0))), (13, .int .i64 (↑s.length : Int)), (14, .int .i64 i)]) (L2 := (rng 9 0)) 5 [0, 2, 4, 5, 6, 7, 13, 14] (by kernel_rfl) ?_
      refine wc_nil rfl ?_
      refine n_sq ?_
      refine wn_seq (by kernel_rfl) ?_
      refine wn_seq (by kernel_rfl) ?_
      refine wn_reg 2 (by kernel_rfl) ?_
      refine wc_run (T' := [(0, .string (strOfNums s)), (2, .pointer (some ⟨b1, 0, none⟩)), (4, .pointer (some ⟨b3, 0, none⟩)), (5, .int .i64 i), (6, .int .u8 (hfV (s.getD i.toNat 0))), (13, .int .i64 (↑s.length : Int)), (14, .int .i64 i), (25, .bool (!(hfB (s.getD i.toNat 0))))]) (L2 := (rng 2 0)) 2 [0, 2, 4, 5, 6, 13, 14, 25] (by kernel_rfl) ?_
      refine wc_nil rfl ?_
      refine n_sq ?_
      refine wn_cond (.tmp 25) (!(hfB (s.getD i.toNat 0))) (by kernel_rfl) rfl (fun hc12 => ?_) (fun hc12 => ?_)
      · have hc12 := notT hc12
        refine wn_seq (by kernel_rfl) ?_
        refine wn_reg 3 (by kernel_rfl) ?_
        refine wc_run (T' := [(2, .pointer (some ⟨b1, 0, none⟩)), (26, .agg (iv .u8 (List.replicate 32 0)).toArray)]) (L2 := (rng 1 2)) 1 [2, 26] (by kernel_rfl) ?_
        refine wc_st (b := b1) (off := 0) (Tb := 47) (vs := (iv .u8 (List.replicate 32 0))) (cs' := (iv .u8 (List.replicate 32 0))) H 1 47 (.agg (iv .u8 (List.replicate 32 0)).toArray) 32 (by kernel_rfl) rfl rfl (by exact (iv_length .u8 (List.replicate 32 0)).trans List.length_replicate) (by have h := (iv_length .u8 (List.replicate 32 0)).trans List.length_replicate; omega) (by exact iv_flat _ _) (by exact blit_all _ _ ((show (iv .u8 (List.replicate 32 0) : List Value).length = 32 from (iv_length .u8 (List.replicate 32 0)).trans List.length_replicate).trans (show (iv .u8 (List.replicate 32 0) : List Value).length = 32 from (iv_length .u8 (List.replicate 32 0)).trans List.length_replicate).symm)) (fun w13 H => ?_)
        dsimp only [List.set] at H
        refine wc_run (T' := [(2, .pointer (some ⟨b1, 0, none⟩)), (3, .int .i64 8)]) (L2 := (rng 3 0)) 1 [2, 3] (by kernel_rfl) ?_
        refine wc_nil rfl ?_
        refine n_sq ?_
        refine wn_ret (by kernel_rfl) ?_
        refine r_sq ?_
        refine r_blk ?_
        refine r_sq ?_
        refine r_then ?_
        refine r_blk ?_
        refine r_sq ?_
        refine ret2 _ (Or.inr rfl) Try.results42 ⟨_, _, rfl, Ld.entW H 1 (n := 32) rfl (by kernel_rfl) (by exact (iv_length .u8 (List.replicate 32 0)).trans List.length_replicate)⟩ rfl ?_
        have he14 : (unH s) = (List.replicate 32 0) := by
          exact (hF (un_bad (j := i.toNat) (by omega) (by assumption))).1
        have he15 : (unE s) = (8 : Int) := by
          exact (hF (un_bad (j := i.toNat) (by omega) (by assumption))).2
        exact ⟨by first | (rw [he14, he15]; done) | (rw [he14, he15]; rfl), H.nil, by exact unH_length s⟩
      · have hc12 := notF hc12
        refine wn_skip (by kernel_rfl) ?_
        refine n_sq ?_
        refine wn_reg 11 (by kernel_rfl) ?_
        refine wc_run (T' := [(0, .string (strOfNums s)), (2, .pointer (some ⟨b1, 0, none⟩)), (4, .pointer (some ⟨b3, 0, none⟩)), (5, .int .i64 i), (6, .int .u8 (hfV (s.getD i.toNat 0))), (13, .int .i64 (↑s.length : Int)), (14, .int .i64 i), (28, .int .i64 (IntKind.i64.wrap (i.tdiv 2)))]) (L2 := (rng 2 9)) 2 [0, 2, 4, 5, 6, 13, 14, 28] (by kernel_rfl) ?_
        rw [Int.tdiv_eq_ediv_of_nonneg (a := i) (b := 2) (by first | omega | (simp only [List.length_append, List.length_cons, List.length_nil, List.length_set, List.length_replicate, List.length_drop, List.length_take, iv_length, Nat.zero_add] at * <;> omega))]
        rw [wi64 (x := i / 2) (by first | omega | (simp only [List.length_append, List.length_cons, List.length_nil, List.length_set, List.length_replicate, List.length_drop, List.length_take, iv_length, Nat.zero_add] at * <;> omega)) (by first | omega | (simp only [List.length_append, List.length_cons, List.length_nil, List.length_set, List.length_replicate, List.length_drop, List.length_take, iv_length, Nat.zero_add] at * <;> omega))]
        refine wc_run (T' := [(0, .string (strOfNums s)), (2, .pointer (some ⟨b1, 0, none⟩)), (4, .pointer (some ⟨b3, 0, none⟩)), (6, .int .u8 (hfV (s.getD i.toNat 0))), (13, .int .i64 (↑s.length : Int)), (14, .int .i64 i), (28, .int .i64 (i / 2)), (30, .int .i64 (IntKind.i64.wrap (i.tdiv 2)))]) (L2 := (rng 4 7)) 2 [0, 2, 4, 6, 13, 14, 28, 30] (by kernel_rfl) ?_
        rw [Int.tdiv_eq_ediv_of_nonneg (a := i) (b := 2) (by first | omega | (simp only [List.length_append, List.length_cons, List.length_nil, List.length_set, List.length_replicate, List.length_drop, List.length_take, iv_length, Nat.zero_add] at * <;> omega))]
        rw [wi64 (x := i / 2) (by first | omega | (simp only [List.length_append, List.length_cons, List.length_nil, List.length_set, List.length_replicate, List.length_drop, List.length_take, iv_length, Nat.zero_add] at * <;> omega)) (by first | omega | (simp only [List.length_append, List.length_cons, List.length_nil, List.length_set, List.length_replicate, List.length_drop, List.length_take, iv_length, Nat.zero_add] at * <;> omega))]
        refine wc_ix (b := b3) (off := 0) (o' := (i / 2).toNat) (some 31) (some ⟨b3, 0, none⟩) 32 1 (i / 2) (by kernel_rfl) rfl (by omega) (by omega) (by omega) ?_
        refine wc_ld (b := b3) (off := (i / 2).toNat) (some 32) 5 (.int .u8 (q.getD ((i / 2).toNat) 0)) (by kernel_rfl) (Ld.ent1 H 0 rfl (by kernel_rfl) (iv_get (by first | (simp only [iv_length, List.length_set, List.length_replicate, *]; done) | (simp [iv_length, *]; done) | (simp [Value.cells, iv_length, *]; done) | omega | (simp [Value.cells, iv_length] <;> omega)))) ?_
        refine wc_run (T' := [(0, .string (strOfNums s)), (2, .pointer (some ⟨b1, 0, none⟩)), (4, .pointer (some ⟨b3, 0, none⟩)), (13, .int .i64 (↑s.length : Int)), (14, .int .i64 i), (28, .int .i64 (i / 2)), (35, .int .u8 (bor .u8 (shlV .u8 (q.getD ((i / 2).toNat) 0) 4) (hfV (s.getD i.toNat 0))))]) (L2 := (rng 9 2)) 3 [0, 2, 4, 13, 14, 28, 35] (by kernel_rfl) ?_
        refine wc_ix (b := b3) (off := 0) (o' := (i / 2).toNat) (some 36) (some ⟨b3, 0, none⟩) 32 1 (i / 2) (by kernel_rfl) rfl (by omega) (by omega) (by omega) ?_
        refine wc_st (b := b3) (off := (i / 2).toNat) (Tb := 47) (vs := ([.int .u8 (bor .u8 (shlV .u8 (q.getD ((i / 2).toNat) 0) 4) (hfV (s.getD i.toNat 0)))])) (cs' := (iv .u8 (q.set ((i / 2).toNat) (bor .u8 (shlV .u8 (q.getD ((i / 2).toNat) 0) 4) (hfV (s.getD i.toNat 0)))))) H 0 5 (.int .u8 (bor .u8 (shlV .u8 (q.getD ((i / 2).toNat) 0) 4) (hfV (s.getD i.toNat 0)))) 1 (by kernel_rfl) rfl rfl (by rfl) (by first | (simp only [iv_length, List.length_set, List.length_replicate, *]; done) | (simp [iv_length, *]; done) | (simp [Value.cells, iv_length, *]; done) | omega | (simp [Value.cells, iv_length] <;> omega)) (by simp [Value.oneCell']) (by exact iv_set _ _ _ _ (by first | (simp only [iv_length, List.length_set, List.length_replicate, *]; done) | (simp [iv_length, *]; done) | (simp [Value.cells, iv_length, *]; done) | omega | (simp [Value.cells, iv_length] <;> omega))) (fun w16 H => ?_)
        dsimp only [List.set] at H
        refine wc_nil rfl ?_
        refine n_blk ?_
        refine n_sq ?_
        refine wn_reg 2 (by kernel_rfl) ?_
        refine wc_run (T' := [(0, .string (strOfNums s)), (2, .pointer (some ⟨b1, 0, none⟩)), (4, .pointer (some ⟨b3, 0, none⟩)), (13, .int .i64 (↑s.length : Int)), (37, .int .i64 (IntKind.i64.wrap (i + 1)))]) (L2 := (rng 1 1)) 1 [0, 2, 4, 13, 37] (by kernel_rfl) ?_
        rw [wi64 (x := i + 1) (by first | omega | (simp only [List.length_append, List.length_cons, List.length_nil, List.length_set, List.length_replicate, List.length_drop, List.length_take, iv_length, Nat.zero_add] at * <;> omega)) (by first | omega | (simp only [List.length_append, List.length_cons, List.length_nil, List.length_set, List.length_replicate, List.length_drop, List.length_take, iv_length, Nat.zero_add] at * <;> omega))]
        refine wc_run (T' := [(0, .string (strOfNums s)), (2, .pointer (some ⟨b1, 0, none⟩)), (4, .pointer (some ⟨b3, 0, none⟩)), (13, .int .i64 (↑s.length : Int)), (14, .int .i64 (i + 1))]) (L2 := (rng 2 0)) 1 [0, 2, 4, 13, 14] (by kernel_rfl) ?_
        refine wc_nil rfl ?_
        refine round_end (i + 1, q.set ((i / 2).toNat) (bor .u8 (shlV .u8 (q.getD ((i / 2).toNat) 0) 4) (hfV (s.getD i.toNat 0)))) [0, 2, 4, 13, 14] (by kernel_rfl) ⟨H, ?_⟩ ?_
        · obtain ⟨h1, h2, h3, h4⟩ := hi
          have e1 : (i + 1).toNat = i.toNat + 1 := by omega
          have e2 : (i / 2).toNat = i.toNat / 2 := by omega
          rw [bor16 hqr' hv]
          refine ⟨by omega, by omega, ?_, fun j hj => ?_⟩
          · rw [e1, unN, itN, unS, e2]; rw [h3, unN]
          · by_cases e : j = i.toNat
            · subst e; assumption
            · exact h4 j (by omega)
        · first | omega | (dsimp only; omega)
    · have hc10 := of_decide_eq_false hc10
      refine wn_exit 0 (by kernel_rfl) ?_
      refine e_sq ?_
      refine e_then ?_
      refine e_blk ?_
      refine n_sq ?_
      refine wn_seq (by kernel_rfl) ?_
      refine wn_reg 3 (by kernel_rfl) ?_
      refine wc_ld (b := b3) (off := 0) (some 38) 47 (.agg (iv .u8 q).toArray) (by kernel_rfl) (Ld.entW H 0 (n := 32) rfl (by kernel_rfl) (by first | (simp only [iv_length, List.length_set, List.length_replicate, *]; done) | (simp [iv_length, *]; done) | (simp [Value.cells, iv_length, *]; done) | omega | (simp [Value.cells, iv_length] <;> omega))) ?_
      refine wc_st (b := b1) (off := 0) (Tb := 47) (vs := (iv .u8 q)) (cs' := (iv .u8 q)) H 1 47 (.agg (iv .u8 q).toArray) 32 (by kernel_rfl) rfl rfl (by first | (simp only [iv_length, List.length_set, List.length_replicate, *]; done) | (simp [iv_length, *]; done) | (simp [Value.cells, iv_length, *]; done) | omega | (simp [Value.cells, iv_length] <;> omega)) (by have h := (iv_length .u8 (List.replicate 32 0)).trans List.length_replicate; omega) (by exact iv_flat _ _) (by first | rfl | exact blit_all _ _ (by first | (simp only [iv_length, List.length_set, List.length_replicate, *]; done) | (simp [iv_length, *]; done) | (simp [Value.cells, iv_length, *]; done) | omega | (simp [Value.cells, iv_length] <;> omega)) | (simp [blit, List.drop_append, List.take_append, iv_length, *]; done)) (fun w17 H => ?_)
      dsimp only [List.set] at H
      refine wc_run (T' := [(2, .pointer (some ⟨b1, 0, none⟩)), (3, .int .i64 0)]) (L2 := (rng 3 0)) 1 [2, 3] (by kernel_rfl) ?_
      refine wc_nil rfl ?_
      refine n_sq ?_
      refine wn_ret (by kernel_rfl) ?_
      refine ret2 _ (Or.inr rfl) Try.results42 ⟨_, _, rfl, Ld.entW H 1 (n := 32) rfl (by kernel_rfl) (by first | (simp only [iv_length, List.length_set, List.length_replicate, *]; done) | (simp [iv_length, *]; done) | (simp [Value.cells, iv_length, *]; done) | omega | (simp [Value.cells, iv_length] <;> omega))⟩ rfl ?_
      have he18 : (unH s) = q := by
        obtain ⟨h1, h2, h3, h4⟩ := hi
        have e : i.toNat = 64 := by omega
        rw [(hT (un_good (by omega) (fun j hj => h4 j (by omega)))).1, h3, e]
      have he19 : (unE s) = (0 : Int) := by
        obtain ⟨h1, h2, h3, h4⟩ := hi
        exact (hT (un_good (by omega) (fun j hj => h4 j (by omega)))).2
      exact ⟨by first | (rw [he18, he19]; done) | (rw [he18, he19]; rfl), H.nil, by exact unH_length s⟩

noncomputable def cd_proctorref01_Digit : Code := (Try.f60.body).getD .skip
theorem proctorref01_Digit (w : World) (c : Int) (hc : 0 ≤ c ∧ c < 256) :
    Calls Try.prog 60 #[.int .u8 c] w (fun e w' => e = .returned (.int .i64 (dgV c)) ∧ Hp no w w' []) := by
  refine enter (args := [_]) (c := cd_proctorref01_Digit) (N := 13) Try.func60 (by kernel_rfl) (by kernel_rfl) (by simp) ?_
  have H := Hp.start w
  refine wn_seq (by kernel_rfl) ?_
  refine wn_reg 1 (by kernel_rfl) ?_
  refine wc_run (T' := [(0, .int .u8 c)]) (L2 := (rng 1 0)) 1 [0] (by kernel_rfl) ?_
  refine wc_nil rfl ?_
  refine n_sq ?_
  refine wn_seq (by kernel_rfl) ?_
  refine wn_seq (by kernel_rfl) ?_
  refine wn_reg 1 (by kernel_rfl) ?_
  refine wc_run (T' := [(0, .int .u8 c), (3, .int .i64 0)]) (L2 := (rng 1 0)) 1 [0, 3] (by kernel_rfl) ?_
  refine wc_nil rfl ?_
  refine n_sq ?_
  refine wn_block 0 (by kernel_rfl) ?_
  refine wn_loop (fun (i : Int) => [(0, .int .u8 c), (3, .int .i64 i)]) (fun (i : Int) w' => Hp no w w' [] ∧ 0 ≤ i ∧ i ≤ 16 ∧ ∀ j : Nat, j < i.toNat → ([48, 49, 50, 51, 52, 53, 54, 55, 56, 57, 97, 98, 99, 100, 101, 102] : List Int).getD j 0 ≠ c) (fun (i : Int) => (16 - i).toNat) ((0 : Int)) [0, 3] (by kernel_rfl) rfl ⟨H, by simp⟩ ?_
  rintro i w1 ⟨H, hi⟩
  try dsimp only at H hi
  refine wn_pick (T' := [(0, .int .u8 c), (3, .int .i64 i)]) [0, 3] (by kernel_rfl) ?_
  refine wn_seq (by kernel_rfl) ?_
  refine wn_seq (by kernel_rfl) ?_
  refine wn_reg 2 (by kernel_rfl) ?_
  refine wc_run (T' := [(0, .int .u8 c), (3, .int .i64 i), (5, .bool (decide (i < (16 : Int))))]) (L2 := (rng 2 0)) 2 [0, 3, 5] (by kernel_rfl) ?_
  refine wc_nil rfl ?_
  refine n_sq ?_
  refine wn_cond (.tmp 5) (decide (i < (16 : Int))) (by kernel_rfl) rfl (fun hc2 => ?_) (fun hc2 => ?_)
  · have hc2 := of_decide_eq_true hc2
    refine wn_skip (by kernel_rfl) ?_
    refine n_sq ?_
    refine wn_seq (by kernel_rfl) ?_
    refine wn_block 1 (by kernel_rfl) ?_
    refine wn_seq (by kernel_rfl) ?_
    refine wn_reg 4 (by kernel_rfl) ?_
    refine wc_run (T' := [(0, .int .u8 c), (3, .int .i64 i), (8, .int .i64 i)]) (L2 := (rng 1 3)) 1 [0, 3, 8] (by kernel_rfl) ?_
    refine wc_isB (some 9) ([48, 49, 50, 51, 52, 53, 54, 55, 56, 57, 97, 98, 99, 100, 101, 102]) i (by kernel_rfl) (by first | omega | (simp only [List.length_append, List.length_cons, List.length_nil, List.length_set, List.length_replicate, List.length_drop, List.length_take, iv_length, Nat.zero_add] at * <;> omega)) (by first | omega | (simp only [List.length_append, List.length_cons, List.length_nil, List.length_set, List.length_replicate, List.length_drop, List.length_take, iv_length, Nat.zero_add] at * <;> omega)) (by exact dg_r _) ?_
    refine wc_run (T' := [(0, .int .u8 c), (3, .int .i64 i), (11, .bool ((([48, 49, 50, 51, 52, 53, 54, 55, 56, 57, 97, 98, 99, 100, 101, 102]).getD i.toNat 0) == c))]) (L2 := (rng 4 0)) 2 [0, 3, 11] (by kernel_rfl) ?_
    refine wc_nil rfl ?_
    refine n_sq ?_
    refine wn_cond (.tmp 11) ((([48, 49, 50, 51, 52, 53, 54, 55, 56, 57, 97, 98, 99, 100, 101, 102]).getD i.toNat 0) == c) (by kernel_rfl) rfl (fun hc3 => ?_) (fun hc3 => ?_)
    · have hc3 := eq_of_beq hc3
      refine wn_seq (by kernel_rfl) ?_
      refine wn_reg 2 (by kernel_rfl) ?_
      refine wc_run (T' := [(2, .int .i64 i)]) (L2 := (rng 2 0)) 2 [2] (by kernel_rfl) ?_
      refine wc_nil rfl ?_
      refine n_sq ?_
      refine wn_ret (by kernel_rfl) ?_
      refine r_blk ?_
      refine r_sq ?_
      refine r_then ?_
      refine r_blk ?_
      refine r_sq ?_
      refine ret1 _ (Or.inr rfl) Try.results60 rfl ?_
      have he4 : (dgV c) = i := by
        exact dg_hit (by omega) (by omega) (by assumption)
      exact ⟨by first | (rw [he4]; done) | (rw [he4]; rfl), H.nil⟩
    · have hc3 := ne_of_beq_false hc3
      refine wn_skip (by kernel_rfl) ?_
      refine n_blk ?_
      refine n_sq ?_
      refine wn_reg 3 (by kernel_rfl) ?_
      refine wc_run (T' := [(0, .int .u8 c), (7, .int .i64 (IntKind.i64.wrap (i + 1)))]) (L2 := (rng 2 1)) 2 [0, 7] (by kernel_rfl) ?_
      rw [wi64 (x := i + 1) (by first | omega | (simp only [List.length_append, List.length_cons, List.length_nil, List.length_set, List.length_replicate, List.length_drop, List.length_take, iv_length, Nat.zero_add] at * <;> omega)) (by first | omega | (simp only [List.length_append, List.length_cons, List.length_nil, List.length_set, List.length_replicate, List.length_drop, List.length_take, iv_length, Nat.zero_add] at * <;> omega))]
      refine wc_run (T' := [(0, .int .u8 c), (3, .int .i64 (i + 1))]) (L2 := (rng 3 0)) 1 [0, 3] (by kernel_rfl) ?_
      refine wc_nil rfl ?_
      refine round_end (i + 1) [0, 3] (by kernel_rfl) ⟨H, ?_⟩ ?_
      · obtain ⟨h1, h2, h3⟩ := hi
        refine ⟨by omega, by omega, fun j hj => ?_⟩
        by_cases e : j = i.toNat
        · subst e; assumption
        · exact h3 j (by omega)
      · first | omega | (dsimp only; omega)
  · have hc2 := of_decide_eq_false hc2
    refine wn_exit 0 (by kernel_rfl) ?_
    refine e_sq ?_
    refine e_then ?_
    refine e_blk ?_
    refine n_sq ?_
    refine wn_seq (by kernel_rfl) ?_
    refine wn_reg 1 (by kernel_rfl) ?_
    refine wc_run (T' := [(2, .int .i64 (-1))]) (L2 := (rng 1 0)) 1 [2] (by kernel_rfl) ?_
    refine wc_nil rfl ?_
    refine n_sq ?_
    refine wn_ret (by kernel_rfl) ?_
    refine ret1 _ (Or.inr rfl) Try.results60 rfl ?_
    have he5 : (dgV c) = (-1 : Int) := by
      exact dg_miss (fun j hj => hi.2.2 j (by omega))
    exact ⟨by first | (rw [he5]; done) | (rw [he5]; rfl), H.nil⟩

noncomputable def cd_proctorref01_Unhex : Code := (Try.f43.body).getD .skip
theorem proctorref01_Unhex (w : World) (s : List Int) (hs : ∀ x ∈ s, 0 ≤ x ∧ x < 256) :
    Calls Try.prog 43 #[.string (strOfNums s)] w (fun e w' => e = .returned (.tuple #[.agg (iv .u8 (unH s)).toArray, .int .i64 (unE s)]) ∧ Hp no w w' [] ∧ (unH s).length = 32) := by
  have hsg := get_of_mem (p := fun x => 0 ≤ x ∧ x < 256) (by omega) hs
  have hF : unOk s = false → unH s = List.replicate 32 0 ∧ unE s = 8 := fun h => ⟨by unfold unH; rw [if_neg (by rw [h]; decide)], by unfold unE; rw [if_neg (by rw [h]; decide)]⟩
  have hT : unOk s = true → unH s = unN s 64 ∧ unE s = 0 := fun h => ⟨by unfold unH; rw [if_pos h], by unfold unE; rw [if_pos h]⟩
  have hL : s.length ≠ 64 → unOk s = false := fun h => by unfold unOk; rw [decide_eq_false h]; rfl
  refine enter (args := [_]) (c := cd_proctorref01_Unhex) (N := 34) Try.func43 (by kernel_rfl) (by kernel_rfl) (by simp) ?_
  have H := Hp.start w
  refine wn_seq (by kernel_rfl) ?_
  refine wn_reg 2 (by kernel_rfl) ?_
  refine wc_new H (some 2) (row (iv .u8 (List.replicate 32 0)) 47) (fun r => .pointer (some ⟨r, 0, none⟩)) (by kernel_rfl) (fun b1 w2 H => ?_)
  refine wc_run (T' := [(0, .string (strOfNums s)), (2, .pointer (some ⟨b1, 0, none⟩))]) (L2 := (rng 2 0)) 1 [0, 2] (by kernel_rfl) ?_
  refine wc_nil rfl ?_
  refine n_sq ?_
  refine wn_seq (by kernel_rfl) ?_
  refine wn_reg 1 (by kernel_rfl) ?_
  refine wc_new H (some 4) (row (iv .u8 (List.replicate 32 0)) 47) (fun r => .pointer (some ⟨r, 0, none⟩)) (by kernel_rfl) (fun b3 w4 H => ?_)
  refine wc_nil rfl ?_
  refine n_sq ?_
  refine wn_seq (by kernel_rfl) ?_
  refine wn_seq (by kernel_rfl) ?_
  refine wn_reg 3 (by kernel_rfl) ?_
  refine wc_run (T' := [(0, .string (strOfNums s)), (2, .pointer (some ⟨b1, 0, none⟩)), (4, .pointer (some ⟨b3, 0, none⟩)), (7, .string (strOfNums s))]) (L2 := (rng 1 2)) 1 [0, 2, 4, 7] (by kernel_rfl) ?_
  refine wc_ln (some 8) s (by kernel_rfl) ?_
  refine wc_run (T' := [(0, .string (strOfNums s)), (2, .pointer (some ⟨b1, 0, none⟩)), (4, .pointer (some ⟨b3, 0, none⟩)), (9, .bool ((↑s.length : Int) != (64 : Int)))]) (L2 := (rng 3 0)) 1 [0, 2, 4, 9] (by kernel_rfl) ?_
  refine wc_nil rfl ?_
  refine n_sq ?_
  refine wn_cond (.tmp 9) ((↑s.length : Int) != (64 : Int)) (by kernel_rfl) rfl (fun hc5 => ?_) (fun hc5 => ?_)
  · have hc5 := bneT hc5
    refine wn_seq (by kernel_rfl) ?_
    refine wn_reg 3 (by kernel_rfl) ?_
    refine wc_ld (b := b3) (off := 0) (some 10) 47 (.agg (iv .u8 (List.replicate 32 0)).toArray) (by kernel_rfl) (Ld.entW H 0 (n := 32) rfl (by kernel_rfl) (by exact (iv_length .u8 (List.replicate 32 0)).trans List.length_replicate)) ?_
    refine wc_st (b := b1) (off := 0) (Tb := 47) (vs := (iv .u8 (List.replicate 32 0))) (cs' := (iv .u8 (List.replicate 32 0))) H 1 47 (.agg (iv .u8 (List.replicate 32 0)).toArray) 32 (by kernel_rfl) rfl rfl (by exact (iv_length .u8 (List.replicate 32 0)).trans List.length_replicate) (by have h := (iv_length .u8 (List.replicate 32 0)).trans List.length_replicate; omega) (by exact iv_flat _ _) (by exact blit_all _ _ ((show (iv .u8 (List.replicate 32 0) : List Value).length = 32 from (iv_length .u8 (List.replicate 32 0)).trans List.length_replicate).trans (show (iv .u8 (List.replicate 32 0) : List Value).length = 32 from (iv_length .u8 (List.replicate 32 0)).trans List.length_replicate).symm)) (fun w6 H => ?_)
    dsimp only [List.set] at H
    refine wc_run (T' := [(2, .pointer (some ⟨b1, 0, none⟩)), (3, .int .i64 8)]) (L2 := (rng 3 0)) 1 [2, 3] (by kernel_rfl) ?_
    refine wc_nil rfl ?_
    refine n_sq ?_
    refine wn_ret (by kernel_rfl) ?_
    refine r_sq ?_
    refine ret2 _ (Or.inr rfl) Try.results43 ⟨_, _, rfl, Ld.entW H 1 (n := 32) rfl (by kernel_rfl) (by exact (iv_length .u8 (List.replicate 32 0)).trans List.length_replicate)⟩ rfl ?_
    have he7 : (unH s) = (List.replicate 32 0) := by
      exact (hF (hL (by omega))).1
    have he8 : (unE s) = (8 : Int) := by
      exact (hF (hL (by omega))).2
    exact ⟨by first | (rw [he7, he8]; done) | (rw [he7, he8]; rfl), H.nil, by exact unH_length s⟩
  · have hc5 := bneF hc5
    refine wn_skip (by kernel_rfl) ?_
    refine n_sq ?_
    refine wn_seq (by kernel_rfl) ?_
    refine wn_seq (by kernel_rfl) ?_
    refine wn_reg 1 (by kernel_rfl) ?_
    refine wc_run (T' := [(0, .string (strOfNums s)), (2, .pointer (some ⟨b1, 0, none⟩)), (4, .pointer (some ⟨b3, 0, none⟩)), (5, .int .i64 0)]) (L2 := (rng 1 0)) 1 [0, 2, 4, 5] (by kernel_rfl) ?_
    refine wc_nil rfl ?_
    refine n_sq ?_
    refine wn_block 0 (by kernel_rfl) ?_
    refine wn_loop (fun ((i, q) : Int × List Int) => [(0, .string (strOfNums s)), (2, .pointer (some ⟨b1, 0, none⟩)), (4, .pointer (some ⟨b3, 0, none⟩)), (5, .int .i64 i)]) (fun ((i, q) : Int × List Int) w' => Hp no w w' [.bk b3 (row (iv .u8 q) 47), .bk b1 (row (iv .u8 (List.replicate 32 0)) 47)] ∧ 0 ≤ i ∧ i ≤ 64 ∧ q = unN s i.toNat ∧ ∀ j : Nat, j < i.toNat → hfB (s.getD j 0) = true) (fun ((i, q) : Int × List Int) => (64 - i).toNat) ((0 : Int), (List.replicate 32 0)) [0, 2, 4, 5] (by kernel_rfl) rfl ⟨H, by simp [unN, itN]⟩ ?_
    rintro ⟨i, q⟩ w9 ⟨H, hi⟩
    try dsimp only at H hi
    refine wn_pick (T' := [(0, .string (strOfNums s)), (2, .pointer (some ⟨b1, 0, none⟩)), (4, .pointer (some ⟨b3, 0, none⟩)), (5, .int .i64 i)]) [0, 2, 4, 5] (by kernel_rfl) ?_
    have hql : q.length = 32 := by rw [hi.2.2.1]; exact unN_length _ _
    have hqr := get_of_mem (p := fun x => 0 ≤ x ∧ x < 256) (l := q) (by omega) (by rw [hi.2.2.1]; exact unN_range _ _)
    have hqr' := hqr (i / 2).toNat
    have hv := hfV_r (s.getD i.toNat 0)
    have hd1 : hfB (s.getD i.toNat 0) = true → dgV (s.getD i.toNat 0) = hfV (s.getD i.toNat 0) := fun h => by unfold dgV; rw [if_pos h]
    have hd2 : hfB (s.getD i.toNat 0) = false → dgV (s.getD i.toNat 0) = -1 := fun h => by unfold dgV; rw [if_neg (by rw [h]; decide)]
    have hd3 : dgV (s.getD i.toNat 0) < 0 → hfB (s.getD i.toNat 0) = false := fun h => by
      rcases Bool.eq_false_or_eq_true (hfB (s.getD i.toNat 0)) with h' | h'
      · have := hd1 h'; omega
      · exact h'
    have hd4 : ¬ dgV (s.getD i.toNat 0) < 0 → hfB (s.getD i.toNat 0) = true := fun h => by
      rcases Bool.eq_false_or_eq_true (hfB (s.getD i.toNat 0)) with h' | h'
      · exact h'
      · have := hd2 h'; omega
    refine wn_seq (by kernel_rfl) ?_
    refine wn_seq (by kernel_rfl) ?_
    refine wn_reg 2 (by kernel_rfl) ?_
    refine wc_run (T' := [(0, .string (strOfNums s)), (2, .pointer (some ⟨b1, 0, none⟩)), (4, .pointer (some ⟨b3, 0, none⟩)), (5, .int .i64 i), (12, .bool (decide (i < (64 : Int))))]) (L2 := (rng 2 0)) 2 [0, 2, 4, 5, 12] (by kernel_rfl) ?_
    refine wc_nil rfl ?_
    refine n_sq ?_
    refine wn_cond (.tmp 12) (decide (i < (64 : Int))) (by kernel_rfl) rfl (fun hc10 => ?_) (fun hc10 => ?_)
    · have hc10 := of_decide_eq_true hc10
      refine wn_skip (by kernel_rfl) ?_
      refine n_sq ?_
      refine wn_seq (by kernel_rfl) ?_
      refine wn_block 1 (by kernel_rfl) ?_
      refine wn_seq (by kernel_rfl) ?_
      refine wn_reg 5 (by kernel_rfl) ?_
      refine wc_run (T' := [(0, .string (strOfNums s)), (2, .pointer (some ⟨b1, 0, none⟩)), (4, .pointer (some ⟨b3, 0, none⟩)), (5, .int .i64 i), (15, .string (strOfNums s)), (16, .int .i64 i)]) (L2 := (rng 2 3)) 2 [0, 2, 4, 5, 15, 16] (by kernel_rfl) ?_
      refine wc_isB (some 17) s i (by kernel_rfl) (by first | omega | (simp only [List.length_append, List.length_cons, List.length_nil, List.length_set, List.length_replicate, List.length_drop, List.length_take, iv_length, Nat.zero_add] at * <;> omega)) (by first | omega | (simp only [List.length_append, List.length_cons, List.length_nil, List.length_set, List.length_replicate, List.length_drop, List.length_take, iv_length, Nat.zero_add] at * <;> omega)) (by exact hsg _) ?_
      refine wc_call (some 18) (by kernel_rfl) (proctorref01_Digit w9 (s.getD i.toNat 0) (by first | with_reducible assumption | omega | (simp_all; done))) ?_
      rintro _ w11 ⟨rfl, H1⟩
      refine ⟨_, rfl, fun _ => H1.keep, ?_⟩
      replace H := H.call H1
      simp only [List.nil_append] at H
      refine wc_run (T' := [(0, .string (strOfNums s)), (2, .pointer (some ⟨b1, 0, none⟩)), (4, .pointer (some ⟨b3, 0, none⟩)), (5, .int .i64 i), (6, .int .i64 (dgV (s.getD i.toNat 0)))]) (L2 := (rng 5 0)) 1 [0, 2, 4, 5, 6] (by kernel_rfl) ?_
      refine wc_nil rfl ?_
      refine n_sq ?_
      refine wn_seq (by kernel_rfl) ?_
      refine wn_seq (by kernel_rfl) ?_
      refine wn_reg 2 (by kernel_rfl) ?_
      refine wc_run (T' := [(0, .string (strOfNums s)), (2, .pointer (some ⟨b1, 0, none⟩)), (4, .pointer (some ⟨b3, 0, none⟩)), (5, .int .i64 i), (6, .int .i64 (dgV (s.getD i.toNat 0))), (20, .bool (decide ((dgV (s.getD i.toNat 0)) < (0 : Int))))]) (L2 := (rng 2 0)) 2 [0, 2, 4, 5, 6, 20] (by kernel_rfl) ?_
      refine wc_nil rfl ?_
      refine n_sq ?_
      refine wn_cond (.tmp 20) (decide ((dgV (s.getD i.toNat 0)) < (0 : Int))) (by kernel_rfl) rfl (fun hc12 => ?_) (fun hc12 => ?_)
      · have hc12 := of_decide_eq_true hc12
        refine wn_seq (by kernel_rfl) ?_
        refine wn_reg 3 (by kernel_rfl) ?_
        refine wc_run (T' := [(2, .pointer (some ⟨b1, 0, none⟩)), (21, .agg (iv .u8 (List.replicate 32 0)).toArray)]) (L2 := (rng 1 2)) 1 [2, 21] (by kernel_rfl) ?_
        refine wc_st (b := b1) (off := 0) (Tb := 47) (vs := (iv .u8 (List.replicate 32 0))) (cs' := (iv .u8 (List.replicate 32 0))) H 1 47 (.agg (iv .u8 (List.replicate 32 0)).toArray) 32 (by kernel_rfl) rfl rfl (by exact (iv_length .u8 (List.replicate 32 0)).trans List.length_replicate) (by have h := (iv_length .u8 (List.replicate 32 0)).trans List.length_replicate; omega) (by exact iv_flat _ _) (by exact blit_all _ _ ((show (iv .u8 (List.replicate 32 0) : List Value).length = 32 from (iv_length .u8 (List.replicate 32 0)).trans List.length_replicate).trans (show (iv .u8 (List.replicate 32 0) : List Value).length = 32 from (iv_length .u8 (List.replicate 32 0)).trans List.length_replicate).symm)) (fun w13 H => ?_)
        dsimp only [List.set] at H
        refine wc_run (T' := [(2, .pointer (some ⟨b1, 0, none⟩)), (3, .int .i64 8)]) (L2 := (rng 3 0)) 1 [2, 3] (by kernel_rfl) ?_
        refine wc_nil rfl ?_
        refine n_sq ?_
        refine wn_ret (by kernel_rfl) ?_
        refine r_sq ?_
        refine r_blk ?_
        refine r_sq ?_
        refine r_then ?_
        refine r_blk ?_
        refine r_sq ?_
        refine ret2 _ (Or.inr rfl) Try.results43 ⟨_, _, rfl, Ld.entW H 1 (n := 32) rfl (by kernel_rfl) (by exact (iv_length .u8 (List.replicate 32 0)).trans List.length_replicate)⟩ rfl ?_
        have he14 : (unH s) = (List.replicate 32 0) := by
          exact (hF (un_bad (j := i.toNat) (by omega) (hd3 (by assumption)))).1
        have he15 : (unE s) = (8 : Int) := by
          exact (hF (un_bad (j := i.toNat) (by omega) (hd3 (by assumption)))).2
        exact ⟨by first | (rw [he14, he15]; done) | (rw [he14, he15]; rfl), H.nil, by exact unH_length s⟩
      · have hc12 := of_decide_eq_false hc12
        refine wn_skip (by kernel_rfl) ?_
        refine n_sq ?_
        refine wn_reg 12 (by kernel_rfl) ?_
        refine wc_run (T' := [(0, .string (strOfNums s)), (2, .pointer (some ⟨b1, 0, none⟩)), (4, .pointer (some ⟨b3, 0, none⟩)), (5, .int .i64 i), (6, .int .i64 (dgV (s.getD i.toNat 0))), (23, .int .i64 (IntKind.i64.wrap (i.tdiv 2)))]) (L2 := (rng 2 10)) 2 [0, 2, 4, 5, 6, 23] (by kernel_rfl) ?_
        rw [Int.tdiv_eq_ediv_of_nonneg (a := i) (b := 2) (by first | omega | (simp only [List.length_append, List.length_cons, List.length_nil, List.length_set, List.length_replicate, List.length_drop, List.length_take, iv_length, Nat.zero_add] at * <;> omega))]
        rw [wi64 (x := i / 2) (by first | omega | (simp only [List.length_append, List.length_cons, List.length_nil, List.length_set, List.length_replicate, List.length_drop, List.length_take, iv_length, Nat.zero_add] at * <;> omega)) (by first | omega | (simp only [List.length_append, List.length_cons, List.length_nil, List.length_set, List.length_replicate, List.length_drop, List.length_take, iv_length, Nat.zero_add] at * <;> omega))]
        refine wc_run (T' := [(0, .string (strOfNums s)), (2, .pointer (some ⟨b1, 0, none⟩)), (4, .pointer (some ⟨b3, 0, none⟩)), (5, .int .i64 i), (6, .int .i64 (dgV (s.getD i.toNat 0))), (23, .int .i64 (i / 2)), (25, .int .i64 (IntKind.i64.wrap (i.tdiv 2)))]) (L2 := (rng 4 8)) 2 [0, 2, 4, 5, 6, 23, 25] (by kernel_rfl) ?_
        rw [Int.tdiv_eq_ediv_of_nonneg (a := i) (b := 2) (by first | omega | (simp only [List.length_append, List.length_cons, List.length_nil, List.length_set, List.length_replicate, List.length_drop, List.length_take, iv_length, Nat.zero_add] at * <;> omega))]
        rw [wi64 (x := i / 2) (by first | omega | (simp only [List.length_append, List.length_cons, List.length_nil, List.length_set, List.length_replicate, List.length_drop, List.length_take, iv_length, Nat.zero_add] at * <;> omega)) (by first | omega | (simp only [List.length_append, List.length_cons, List.length_nil, List.length_set, List.length_replicate, List.length_drop, List.length_take, iv_length, Nat.zero_add] at * <;> omega))]
        refine wc_ix (b := b3) (off := 0) (o' := (i / 2).toNat) (some 26) (some ⟨b3, 0, none⟩) 32 1 (i / 2) (by kernel_rfl) rfl (by omega) (by omega) (by omega) ?_
        refine wc_ld (b := b3) (off := (i / 2).toNat) (some 27) 5 (.int .u8 (q.getD ((i / 2).toNat) 0)) (by kernel_rfl) (Ld.ent1 H 0 rfl (by kernel_rfl) (iv_get (by first | (simp only [iv_length, List.length_set, List.length_replicate, *]; done) | (simp [iv_length, *]; done) | (simp [Value.cells, iv_length, *]; done) | omega | (simp [Value.cells, iv_length] <;> omega)))) ?_
        refine wc_run (T' := [(0, .string (strOfNums s)), (2, .pointer (some ⟨b1, 0, none⟩)), (4, .pointer (some ⟨b3, 0, none⟩)), (5, .int .i64 i), (23, .int .i64 (i / 2)), (31, .int .u8 (IntKind.u8.wrap ((IntKind.u8.wrap ((q.getD ((i / 2).toNat) 0) * 16)) + (IntKind.u8.wrap ((dgV (s.getD i.toNat 0)))))))]) (L2 := (rng 10 2)) 4 [0, 2, 4, 5, 23, 31] (by kernel_rfl) ?_
        refine wc_ix (b := b3) (off := 0) (o' := (i / 2).toNat) (some 32) (some ⟨b3, 0, none⟩) 32 1 (i / 2) (by kernel_rfl) rfl (by omega) (by omega) (by omega) ?_
        refine wc_st (b := b3) (off := (i / 2).toNat) (Tb := 47) (vs := ([.int .u8 (IntKind.u8.wrap ((IntKind.u8.wrap ((q.getD ((i / 2).toNat) 0) * 16)) + (IntKind.u8.wrap ((dgV (s.getD i.toNat 0))))))])) (cs' := (iv .u8 (q.set ((i / 2).toNat) (IntKind.u8.wrap ((IntKind.u8.wrap ((q.getD ((i / 2).toNat) 0) * 16)) + (IntKind.u8.wrap ((dgV (s.getD i.toNat 0))))))))) H 0 5 (.int .u8 (IntKind.u8.wrap ((IntKind.u8.wrap ((q.getD ((i / 2).toNat) 0) * 16)) + (IntKind.u8.wrap ((dgV (s.getD i.toNat 0))))))) 1 (by kernel_rfl) rfl rfl (by rfl) (by first | (simp only [iv_length, List.length_set, List.length_replicate, *]; done) | (simp [iv_length, *]; done) | (simp [Value.cells, iv_length, *]; done) | omega | (simp [Value.cells, iv_length] <;> omega)) (by simp [Value.oneCell']) (by exact iv_set _ _ _ _ (by first | (simp only [iv_length, List.length_set, List.length_replicate, *]; done) | (simp [iv_length, *]; done) | (simp [Value.cells, iv_length, *]; done) | omega | (simp [Value.cells, iv_length] <;> omega))) (fun w16 H => ?_)
        dsimp only [List.set] at H
        refine wc_nil rfl ?_
        refine n_blk ?_
        refine n_sq ?_
        refine wn_reg 3 (by kernel_rfl) ?_
        refine wc_run (T' := [(0, .string (strOfNums s)), (2, .pointer (some ⟨b1, 0, none⟩)), (4, .pointer (some ⟨b3, 0, none⟩)), (14, .int .i64 (IntKind.i64.wrap (i + 1)))]) (L2 := (rng 2 1)) 2 [0, 2, 4, 14] (by kernel_rfl) ?_
        rw [wi64 (x := i + 1) (by first | omega | (simp only [List.length_append, List.length_cons, List.length_nil, List.length_set, List.length_replicate, List.length_drop, List.length_take, iv_length, Nat.zero_add] at * <;> omega)) (by first | omega | (simp only [List.length_append, List.length_cons, List.length_nil, List.length_set, List.length_replicate, List.length_drop, List.length_take, iv_length, Nat.zero_add] at * <;> omega))]
        refine wc_run (T' := [(0, .string (strOfNums s)), (2, .pointer (some ⟨b1, 0, none⟩)), (4, .pointer (some ⟨b3, 0, none⟩)), (5, .int .i64 (i + 1))]) (L2 := (rng 3 0)) 1 [0, 2, 4, 5] (by kernel_rfl) ?_
        refine wc_nil rfl ?_
        refine round_end (i + 1, q.set ((i / 2).toNat) (IntKind.u8.wrap ((IntKind.u8.wrap ((q.getD ((i / 2).toNat) 0) * 16)) + (IntKind.u8.wrap ((dgV (s.getD i.toNat 0))))))) [0, 2, 4, 5] (by kernel_rfl) ⟨H, ?_⟩ ?_
        · obtain ⟨h1, h2, h3, h4⟩ := hi
          have e1 : (i + 1).toNat = i.toNat + 1 := by omega
          have e2 : (i / 2).toNat = i.toNat / 2 := by omega
          have hb := hd4 (by assumption)
          have hd := hd1 hb
          have e3 : IntKind.u8.wrap (IntKind.u8.wrap (q.getD (i / 2).toNat 0 * 16) + IntKind.u8.wrap (dgV (s.getD i.toNat 0))) = (q.getD (i / 2).toNat 0 * 16 + hfV (s.getD i.toNat 0)) % 256 := by rw [hd]; simp only [wrap8]; omega
          rw [e3]
          refine ⟨by omega, by omega, ?_, fun j hj => ?_⟩
          · rw [e1, unN, itN, unS, e2]; rw [h3, unN]
          · by_cases e : j = i.toNat
            · subst e; exact hb
            · exact h4 j (by omega)
        · first | omega | (dsimp only; omega)
    · have hc10 := of_decide_eq_false hc10
      refine wn_exit 0 (by kernel_rfl) ?_
      refine e_sq ?_
      refine e_then ?_
      refine e_blk ?_
      refine n_sq ?_
      refine wn_seq (by kernel_rfl) ?_
      refine wn_reg 3 (by kernel_rfl) ?_
      refine wc_ld (b := b3) (off := 0) (some 33) 47 (.agg (iv .u8 q).toArray) (by kernel_rfl) (Ld.entW H 0 (n := 32) rfl (by kernel_rfl) (by first | (simp only [iv_length, List.length_set, List.length_replicate, *]; done) | (simp [iv_length, *]; done) | (simp [Value.cells, iv_length, *]; done) | omega | (simp [Value.cells, iv_length] <;> omega))) ?_
      refine wc_st (b := b1) (off := 0) (Tb := 47) (vs := (iv .u8 q)) (cs' := (iv .u8 q)) H 1 47 (.agg (iv .u8 q).toArray) 32 (by kernel_rfl) rfl rfl (by first | (simp only [iv_length, List.length_set, List.length_replicate, *]; done) | (simp [iv_length, *]; done) | (simp [Value.cells, iv_length, *]; done) | omega | (simp [Value.cells, iv_length] <;> omega)) (by have h := (iv_length .u8 (List.replicate 32 0)).trans List.length_replicate; omega) (by exact iv_flat _ _) (by first | rfl | exact blit_all _ _ (by first | (simp only [iv_length, List.length_set, List.length_replicate, *]; done) | (simp [iv_length, *]; done) | (simp [Value.cells, iv_length, *]; done) | omega | (simp [Value.cells, iv_length] <;> omega)) | (simp [blit, List.drop_append, List.take_append, iv_length, *]; done)) (fun w17 H => ?_)
      dsimp only [List.set] at H
      refine wc_run (T' := [(2, .pointer (some ⟨b1, 0, none⟩)), (3, .int .i64 0)]) (L2 := (rng 3 0)) 1 [2, 3] (by kernel_rfl) ?_
      refine wc_nil rfl ?_
      refine n_sq ?_
      refine wn_ret (by kernel_rfl) ?_
      refine ret2 _ (Or.inr rfl) Try.results43 ⟨_, _, rfl, Ld.entW H 1 (n := 32) rfl (by kernel_rfl) (by first | (simp only [iv_length, List.length_set, List.length_replicate, *]; done) | (simp [iv_length, *]; done) | (simp [Value.cells, iv_length, *]; done) | omega | (simp [Value.cells, iv_length] <;> omega))⟩ rfl ?_
      have he18 : (unH s) = q := by
        obtain ⟨h1, h2, h3, h4⟩ := hi
        have e : i.toNat = 64 := by omega
        rw [(hT (un_good (by omega) (fun j hj => h4 j (by omega)))).1, h3, e]
      have he19 : (unE s) = (0 : Int) := by
        obtain ⟨h1, h2, h3, h4⟩ := hi
        exact (hT (un_good (by omega) (fun j hj => h4 j (by omega)))).2
      exact ⟨by first | (rw [he18, he19]; done) | (rw [he18, he19]; rfl), H.nil, by exact unH_length s⟩
end Go.Proofs.Ytfeecdcanjkohaa
