/-
  Walks of some of this seat's functions: each call's answer, and what it leaves of memory. No condition beside those that stand in each theorem.
-/
import Derived.Test.YtfeecdcanjkohaaRows
import Derived.Test.YtfeecdcanjkohaaSh2
set_option linter.all false
namespace Go.Proofs.Ytfeecdcanjkohaa
open Go.RowKit Go.Px

def K256 : List Int := [1116352408, 1899447441, 3049323471, 3921009573, 961987163, 1508970993, 2453635748, 2870763221, 3624381080, 310598401, 607225278, 1426881987, 1925078388, 2162078206, 2614888103, 3248222580, 3835390401, 4022224774, 264347078, 604807628, 770255983, 1249150122, 1555081692, 1996064986, 2554220882, 2821834349, 2952996808, 3210313671, 3336571891, 3584528711, 113926993, 338241895, 666307205, 773529912, 1294757372, 1396182291, 1695183700, 1986661051, 2177026350, 2456956037, 2730485921, 2820302411, 3259730800, 3345764771, 3516065817, 3600352804, 4094571909, 275423344, 430227734, 506948616, 659060556, 883997877, 958139571, 1322822218, 1537002063, 1747873779, 1955562222, 2024104815, 2227730452, 2361852424, 2428436474, 2756734187, 3204031479, 3329325298]
def H256 : List Int := [1779033703, 3144134277, 1013904242, 2773480762, 1359893119, 2600822924, 528734635, 1541459225]
theorem K256_length : K256.length = 64 := rfl
theorem H256_length : H256.length = 8 := rfl
theorem bnd_nn (a b : Int) : 0 ≤ bnd .u64 a b := by
  show 0 ≤ IntKind.u64.wrap _
  rw [wrap64]; omega
theorem wrap_nn (a : Int) : 0 ≤ IntKind.u64.wrap a := by rw [wrap64]; omega
def rotl (x k : Int) : Int := bor .u32 (shlV .u32 x (bnd .u64 (IntKind.u64.wrap k) 31)) (shrV .u32 x (IntKind.u64.wrap (32 - bnd .u64 (IntKind.u64.wrap k) 31)))
def rotr (x n : Int) : Int := bor .u32 (shrV .u32 x n) (shlV .u32 x (IntKind.u64.wrap (32 - n)))
def tuS (x : Int) (l : List Int) (i : Nat) (y : Int) : Int := bxr .u32 y (rotl x (0 - l.getD i 0))
def turnS (x : Int) (l : List Int) : Int := itN (tuS x l) l.length 0
def wd4S (b : List Int) (j : Nat) (q : List Int) : List Int := q.set (j / 4) (bor .u32 (shlV .u32 (q.getD (j / 4) 0) 8) (IntKind.u32.wrap (b.getD j 0)))
def spI (b : List Int) : List Int := itN (wd4S b) 64 (List.replicate 64 0)
def spV (n : Nat) (q : List Int) : Int :=
  IntKind.u32.wrap (IntKind.u32.wrap (IntKind.u32.wrap (bxr .u32 (turnS (q.getD (n - 2) 0) [17, 19]) (shrV .u32 (q.getD (n - 2) 0) 10) + q.getD (n - 7) 0) + bxr .u32 (turnS (q.getD (n - 15) 0) [7, 18]) (shrV .u32 (q.getD (n - 15) 0) 3)) + q.getD (n - 16) 0)
def spS (t : Nat) (q : List Int) : List Int := q.set (t + 16) (spV (t + 16) q)
def spF (b : List Int) : List Int := itN spS 48 (spI b)
def rT1 (w : List Int) (t : Nat) (s : List Int) : Int :=
  IntKind.u32.wrap (IntKind.u32.wrap (IntKind.u32.wrap (s.getD 7 0 + turnS (s.getD 4 0) [6, 11, 25]) + bxr .u32 (bnd .u32 (s.getD 4 0) (s.getD 5 0)) (bnd .u32 (bxr .u32 4294967295 (s.getD 4 0)) (s.getD 6 0))) + IntKind.u32.wrap (K256.getD t 0 + w.getD t 0))
def rT2 (s : List Int) : Int :=
  IntKind.u32.wrap (turnS (s.getD 0 0) [2, 13, 22] + bxr .u32 (bxr .u32 (bnd .u32 (s.getD 0 0) (s.getD 1 0)) (bnd .u32 (s.getD 0 0) (s.getD 2 0))) (bnd .u32 (s.getD 1 0) (s.getD 2 0)))
def rnS (w : List Int) (t : Nat) (s : List Int) : List Int :=
  [IntKind.u32.wrap (rT1 w t s + rT2 s), s.getD 0 0, s.getD 1 0, s.getD 2 0, IntKind.u32.wrap (s.getD 3 0 + rT1 w t s), s.getD 4 0, s.getD 5 0, s.getD 6 0]
def adS (s : List Int) (i : Nat) (q : List Int) : List Int := q.set i (IntKind.u32.wrap (q.getD i 0 + s.getD i 0))
def cmpF (h b : List Int) : List Int := itN (adS (itN (rnS (spF b)) 64 h)) 8 h
theorem itN_length {f : Nat → List Int → List Int} {m : Nat} (hf : ∀ j q, q.length = m → (f j q).length = m) : ∀ (n : Nat) (q : List Int), q.length = m → (itN f n q).length = m
  | 0, q, h => h
  | n + 1, q, h => hf _ _ (itN_length hf n q h)
theorem spI_length (b : List Int) : (spI b).length = 64 := itN_length (fun j q h => by simp [wd4S, h]) _ _ (by simp)
theorem spF_length (b : List Int) : (spF b).length = 64 := itN_length (fun j q h => by simp [spS, h]) _ _ (spI_length b)
theorem cmpF_length {h b : List Int} (hh : h.length = 8) : (cmpF h b).length = 8 := itN_length (fun j q h => by simp [adS, h]) _ _ hh
theorem getD_set_self {l : List Int} {i : Nat} (v : Int) (h : i < l.length) : (l.set i v).getD i 0 = v := by
  simp [List.getD_eq_getElem?_getD, h]
theorem getD_set_other {l : List Int} {i j : Nat} (v : Int) (h : i ≠ j) : (l.set i v).getD j 0 = l.getD j 0 := by
  simp [List.getD_eq_getElem?_getD, List.getElem?_set, h]
/-- Four stores in one place, each out of what stands there. -/
theorem sp_four {q : List Int} {t : Int} (hq : q.length = 64) (h0 : 16 ≤ t) (h1 : t < 64) (A B : Int) :
    (((q.set t.toNat A).set t.toNat (IntKind.u32.wrap ((q.set t.toNat A).getD t.toNat 0 + (q.set t.toNat A).getD (t - 7).toNat 0))).set t.toNat (IntKind.u32.wrap (((q.set t.toNat A).set t.toNat (IntKind.u32.wrap ((q.set t.toNat A).getD t.toNat 0 + (q.set t.toNat A).getD (t - 7).toNat 0))).getD t.toNat 0 + B))).set t.toNat
      (IntKind.u32.wrap ((((q.set t.toNat A).set t.toNat (IntKind.u32.wrap ((q.set t.toNat A).getD t.toNat 0 + (q.set t.toNat A).getD (t - 7).toNat 0))).set t.toNat (IntKind.u32.wrap (((q.set t.toNat A).set t.toNat (IntKind.u32.wrap ((q.set t.toNat A).getD t.toNat 0 + (q.set t.toNat A).getD (t - 7).toNat 0))).getD t.toNat 0 + B))).getD t.toNat 0 +
        (((q.set t.toNat A).set t.toNat (IntKind.u32.wrap ((q.set t.toNat A).getD t.toNat 0 + (q.set t.toNat A).getD (t - 7).toNat 0))).set t.toNat (IntKind.u32.wrap (((q.set t.toNat A).set t.toNat (IntKind.u32.wrap ((q.set t.toNat A).getD t.toNat 0 + (q.set t.toNat A).getD (t - 7).toNat 0))).getD t.toNat 0 + B))).getD (t - 16).toNat 0))
    = q.set t.toNat (IntKind.u32.wrap (IntKind.u32.wrap (IntKind.u32.wrap (A + q.getD (t.toNat - 7) 0) + B) + q.getD (t.toNat - 16) 0)) := by
  have e7 : (t - 7).toNat = t.toNat - 7 := by omega
  have e16 : (t - 16).toNat = t.toNat - 16 := by omega
  have hl : t.toNat < q.length := by omega
  simp only [List.set_set, e7, e16, getD_set_self _ hl, getD_set_other _ (show t.toNat ≠ t.toNat - 7 by omega), getD_set_other _ (show t.toNat ≠ t.toNat - 16 by omega)]

noncomputable def cd_sha_factors : Code := (Try.f52.body).getD .skip
theorem sha_factors (w : World)   :
    Calls Try.prog 52 #[] w (fun e w' => e = .returned (.agg (iv .u32 K256).toArray) ∧ Hp no w w' [] ∧ K256.length = 64) := by
  refine enter (args := []) (c := cd_sha_factors) (N := 2) Try.func52 (by kernel_rfl) (by kernel_rfl) (by simp) ?_
  have H := Hp.start w
  refine wn_seq (by kernel_rfl) ?_
  refine wn_reg 1 (by kernel_rfl) ?_
  refine wc_new H (some 0) (row (iv .u32 (List.replicate 64 0)) 88) (fun r => .pointer (some ⟨r, 0, none⟩)) (by kernel_rfl) (fun b1 w2 H => ?_)
  refine wc_nil rfl ?_
  refine n_sq ?_
  refine wn_seq (by kernel_rfl) ?_
  refine wn_reg 2 (by kernel_rfl) ?_
  refine wc_run (T' := [(0, .pointer (some ⟨b1, 0, none⟩)), (1, .agg #[.int .u32 1116352408, .int .u32 1899447441, .int .u32 3049323471, .int .u32 3921009573, .int .u32 961987163, .int .u32 1508970993, .int .u32 2453635748, .int .u32 2870763221, .int .u32 3624381080, .int .u32 310598401, .int .u32 607225278, .int .u32 1426881987, .int .u32 1925078388, .int .u32 2162078206, .int .u32 2614888103, .int .u32 3248222580, .int .u32 3835390401, .int .u32 4022224774, .int .u32 264347078, .int .u32 604807628, .int .u32 770255983, .int .u32 1249150122, .int .u32 1555081692, .int .u32 1996064986, .int .u32 2554220882, .int .u32 2821834349, .int .u32 2952996808, .int .u32 3210313671, .int .u32 3336571891, .int .u32 3584528711, .int .u32 113926993, .int .u32 338241895, .int .u32 666307205, .int .u32 773529912, .int .u32 1294757372, .int .u32 1396182291, .int .u32 1695183700, .int .u32 1986661051, .int .u32 2177026350, .int .u32 2456956037, .int .u32 2730485921, .int .u32 2820302411, .int .u32 3259730800, .int .u32 3345764771, .int .u32 3516065817, .int .u32 3600352804, .int .u32 4094571909, .int .u32 275423344, .int .u32 430227734, .int .u32 506948616, .int .u32 659060556, .int .u32 883997877, .int .u32 958139571, .int .u32 1322822218, .int .u32 1537002063, .int .u32 1747873779, .int .u32 1955562222, .int .u32 2024104815, .int .u32 2227730452, .int .u32 2361852424, .int .u32 2428436474, .int .u32 2756734187, .int .u32 3204031479, .int .u32 3329325298])]) (L2 := (rng 1 1)) 1 [0, 1] (by kernel_rfl) ?_
  refine wc_st (b := b1) (off := 0) (Tb := 88) (vs := ([.int .u32 1116352408, .int .u32 1899447441, .int .u32 3049323471, .int .u32 3921009573, .int .u32 961987163, .int .u32 1508970993, .int .u32 2453635748, .int .u32 2870763221, .int .u32 3624381080, .int .u32 310598401, .int .u32 607225278, .int .u32 1426881987, .int .u32 1925078388, .int .u32 2162078206, .int .u32 2614888103, .int .u32 3248222580, .int .u32 3835390401, .int .u32 4022224774, .int .u32 264347078, .int .u32 604807628, .int .u32 770255983, .int .u32 1249150122, .int .u32 1555081692, .int .u32 1996064986, .int .u32 2554220882, .int .u32 2821834349, .int .u32 2952996808, .int .u32 3210313671, .int .u32 3336571891, .int .u32 3584528711, .int .u32 113926993, .int .u32 338241895, .int .u32 666307205, .int .u32 773529912, .int .u32 1294757372, .int .u32 1396182291, .int .u32 1695183700, .int .u32 1986661051, .int .u32 2177026350, .int .u32 2456956037, .int .u32 2730485921, .int .u32 2820302411, .int .u32 3259730800, .int .u32 3345764771, .int .u32 3516065817, .int .u32 3600352804, .int .u32 4094571909, .int .u32 275423344, .int .u32 430227734, .int .u32 506948616, .int .u32 659060556, .int .u32 883997877, .int .u32 958139571, .int .u32 1322822218, .int .u32 1537002063, .int .u32 1747873779, .int .u32 1955562222, .int .u32 2024104815, .int .u32 2227730452, .int .u32 2361852424, .int .u32 2428436474, .int .u32 2756734187, .int .u32 3204031479, .int .u32 3329325298])) (cs' := ([.int .u32 1116352408, .int .u32 1899447441, .int .u32 3049323471, .int .u32 3921009573, .int .u32 961987163, .int .u32 1508970993, .int .u32 2453635748, .int .u32 2870763221, .int .u32 3624381080, .int .u32 310598401, .int .u32 607225278, .int .u32 1426881987, .int .u32 1925078388, .int .u32 2162078206, .int .u32 2614888103, .int .u32 3248222580, .int .u32 3835390401, .int .u32 4022224774, .int .u32 264347078, .int .u32 604807628, .int .u32 770255983, .int .u32 1249150122, .int .u32 1555081692, .int .u32 1996064986, .int .u32 2554220882, .int .u32 2821834349, .int .u32 2952996808, .int .u32 3210313671, .int .u32 3336571891, .int .u32 3584528711, .int .u32 113926993, .int .u32 338241895, .int .u32 666307205, .int .u32 773529912, .int .u32 1294757372, .int .u32 1396182291, .int .u32 1695183700, .int .u32 1986661051, .int .u32 2177026350, .int .u32 2456956037, .int .u32 2730485921, .int .u32 2820302411, .int .u32 3259730800, .int .u32 3345764771, .int .u32 3516065817, .int .u32 3600352804, .int .u32 4094571909, .int .u32 275423344, .int .u32 430227734, .int .u32 506948616, .int .u32 659060556, .int .u32 883997877, .int .u32 958139571, .int .u32 1322822218, .int .u32 1537002063, .int .u32 1747873779, .int .u32 1955562222, .int .u32 2024104815, .int .u32 2227730452, .int .u32 2361852424, .int .u32 2428436474, .int .u32 2756734187, .int .u32 3204031479, .int .u32 3329325298])) H 0 88 (.agg #[.int .u32 1116352408, .int .u32 1899447441, .int .u32 3049323471, .int .u32 3921009573, .int .u32 961987163, .int .u32 1508970993, .int .u32 2453635748, .int .u32 2870763221, .int .u32 3624381080, .int .u32 310598401, .int .u32 607225278, .int .u32 1426881987, .int .u32 1925078388, .int .u32 2162078206, .int .u32 2614888103, .int .u32 3248222580, .int .u32 3835390401, .int .u32 4022224774, .int .u32 264347078, .int .u32 604807628, .int .u32 770255983, .int .u32 1249150122, .int .u32 1555081692, .int .u32 1996064986, .int .u32 2554220882, .int .u32 2821834349, .int .u32 2952996808, .int .u32 3210313671, .int .u32 3336571891, .int .u32 3584528711, .int .u32 113926993, .int .u32 338241895, .int .u32 666307205, .int .u32 773529912, .int .u32 1294757372, .int .u32 1396182291, .int .u32 1695183700, .int .u32 1986661051, .int .u32 2177026350, .int .u32 2456956037, .int .u32 2730485921, .int .u32 2820302411, .int .u32 3259730800, .int .u32 3345764771, .int .u32 3516065817, .int .u32 3600352804, .int .u32 4094571909, .int .u32 275423344, .int .u32 430227734, .int .u32 506948616, .int .u32 659060556, .int .u32 883997877, .int .u32 958139571, .int .u32 1322822218, .int .u32 1537002063, .int .u32 1747873779, .int .u32 1955562222, .int .u32 2024104815, .int .u32 2227730452, .int .u32 2361852424, .int .u32 2428436474, .int .u32 2756734187, .int .u32 3204031479, .int .u32 3329325298]) 64 (by kernel_rfl) rfl rfl (by rfl) (by have h := (iv_length .u32 (List.replicate 64 0)).trans List.length_replicate; omega) (by simp [Value.oneCell']) (by first | rfl | exact blit_all _ _ (by first | (simp only [iv_length, List.length_set, List.length_replicate, *]; done) | (simp [iv_length, *]; done) | (simp [Value.cells, iv_length, *]; done) | omega | (simp [Value.cells, iv_length] <;> omega)) | (simp [blit, List.drop_append, List.take_append, iv_length, *]; done)) (fun w3 H => ?_)
  dsimp only [List.set] at H
  refine wc_nil rfl ?_
  refine n_sq ?_
  refine wn_ret (by kernel_rfl) ?_
  refine ret1 _ (Or.inr rfl) Try.results52 ⟨_, _, rfl, Ld.entW H 0 (n := 64) rfl (by kernel_rfl) (by rfl)⟩ ?_
  have he4 : K256 = [1116352408, 1899447441, 3049323471, 3921009573, 961987163, 1508970993, 2453635748, 2870763221, 3624381080, 310598401, 607225278, 1426881987, 1925078388, 2162078206, 2614888103, 3248222580, 3835390401, 4022224774, 264347078, 604807628, 770255983, 1249150122, 1555081692, 1996064986, 2554220882, 2821834349, 2952996808, 3210313671, 3336571891, 3584528711, 113926993, 338241895, 666307205, 773529912, 1294757372, 1396182291, 1695183700, 1986661051, 2177026350, 2456956037, 2730485921, 2820302411, 3259730800, 3345764771, 3516065817, 3600352804, 4094571909, 275423344, 430227734, 506948616, 659060556, 883997877, 958139571, 1322822218, 1537002063, 1747873779, 1955562222, 2024104815, 2227730452, 2361852424, 2428436474, 2756734187, 3204031479, 3329325298] := by
    rfl
  exact ⟨by first | (rw [he4]; done) | (rw [he4]; rfl), H.nil, by exact K256_length⟩

noncomputable def cd_sha_first : Code := (Try.f53.body).getD .skip
theorem sha_first (w : World)   :
    Calls Try.prog 53 #[] w (fun e w' => e = .returned (.agg (iv .u32 H256).toArray) ∧ Hp no w w' [] ∧ H256.length = 8) := by
  refine enter (args := []) (c := cd_sha_first) (N := 2) Try.func53 (by kernel_rfl) (by kernel_rfl) (by simp) ?_
  have H := Hp.start w
  refine wn_seq (by kernel_rfl) ?_
  refine wn_reg 1 (by kernel_rfl) ?_
  refine wc_new H (some 0) (row (iv .u32 (List.replicate 8 0)) 90) (fun r => .pointer (some ⟨r, 0, none⟩)) (by kernel_rfl) (fun b1 w2 H => ?_)
  refine wc_nil rfl ?_
  refine n_sq ?_
  refine wn_seq (by kernel_rfl) ?_
  refine wn_reg 2 (by kernel_rfl) ?_
  refine wc_run (T' := [(0, .pointer (some ⟨b1, 0, none⟩)), (1, .agg #[.int .u32 1779033703, .int .u32 3144134277, .int .u32 1013904242, .int .u32 2773480762, .int .u32 1359893119, .int .u32 2600822924, .int .u32 528734635, .int .u32 1541459225])]) (L2 := (rng 1 1)) 1 [0, 1] (by kernel_rfl) ?_
  refine wc_st (b := b1) (off := 0) (Tb := 90) (vs := ([.int .u32 1779033703, .int .u32 3144134277, .int .u32 1013904242, .int .u32 2773480762, .int .u32 1359893119, .int .u32 2600822924, .int .u32 528734635, .int .u32 1541459225])) (cs' := ([.int .u32 1779033703, .int .u32 3144134277, .int .u32 1013904242, .int .u32 2773480762, .int .u32 1359893119, .int .u32 2600822924, .int .u32 528734635, .int .u32 1541459225])) H 0 90 (.agg #[.int .u32 1779033703, .int .u32 3144134277, .int .u32 1013904242, .int .u32 2773480762, .int .u32 1359893119, .int .u32 2600822924, .int .u32 528734635, .int .u32 1541459225]) 8 (by kernel_rfl) rfl rfl (by rfl) (by have h := (iv_length .u32 (List.replicate 8 0)).trans List.length_replicate; omega) (by simp [Value.oneCell']) (by first | rfl | exact blit_all _ _ (by first | (simp only [iv_length, List.length_set, List.length_replicate, *]; done) | (simp [iv_length, *]; done) | (simp [Value.cells, iv_length, *]; done) | omega | (simp [Value.cells, iv_length] <;> omega)) | (simp [blit, List.drop_append, List.take_append, iv_length, *]; done)) (fun w3 H => ?_)
  dsimp only [List.set] at H
  refine wc_nil rfl ?_
  refine n_sq ?_
  refine wn_ret (by kernel_rfl) ?_
  refine ret1 _ (Or.inr rfl) Try.results53 ⟨_, _, rfl, Ld.entW H 0 (n := 8) rfl (by kernel_rfl) (by rfl)⟩ ?_
  have he4 : H256 = [1779033703, 3144134277, 1013904242, 2773480762, 1359893119, 2600822924, 528734635, 1541459225] := by
    rfl
  exact ⟨by first | (rw [he4]; done) | (rw [he4]; rfl), H.nil, by exact H256_length⟩

noncomputable def cd_proctorref01_kays : Code := (Try.f64.body).getD .skip
theorem proctorref01_kays (w : World)   :
    Calls Try.prog 64 #[] w (fun e w' => e = .returned (.agg (iv .u32 K256).toArray) ∧ Hp no w w' [] ∧ K256.length = 64) := by
  refine enter (args := []) (c := cd_proctorref01_kays) (N := 2) Try.func64 (by kernel_rfl) (by kernel_rfl) (by simp) ?_
  have H := Hp.start w
  refine wn_seq (by kernel_rfl) ?_
  refine wn_reg 1 (by kernel_rfl) ?_
  refine wc_new H (some 0) (row (iv .u32 (List.replicate 64 0)) 88) (fun r => .pointer (some ⟨r, 0, none⟩)) (by kernel_rfl) (fun b1 w2 H => ?_)
  refine wc_nil rfl ?_
  refine n_sq ?_
  refine wn_seq (by kernel_rfl) ?_
  refine wn_reg 2 (by kernel_rfl) ?_
  refine wc_run (T' := [(0, .pointer (some ⟨b1, 0, none⟩)), (1, .agg #[.int .u32 1116352408, .int .u32 1899447441, .int .u32 3049323471, .int .u32 3921009573, .int .u32 961987163, .int .u32 1508970993, .int .u32 2453635748, .int .u32 2870763221, .int .u32 3624381080, .int .u32 310598401, .int .u32 607225278, .int .u32 1426881987, .int .u32 1925078388, .int .u32 2162078206, .int .u32 2614888103, .int .u32 3248222580, .int .u32 3835390401, .int .u32 4022224774, .int .u32 264347078, .int .u32 604807628, .int .u32 770255983, .int .u32 1249150122, .int .u32 1555081692, .int .u32 1996064986, .int .u32 2554220882, .int .u32 2821834349, .int .u32 2952996808, .int .u32 3210313671, .int .u32 3336571891, .int .u32 3584528711, .int .u32 113926993, .int .u32 338241895, .int .u32 666307205, .int .u32 773529912, .int .u32 1294757372, .int .u32 1396182291, .int .u32 1695183700, .int .u32 1986661051, .int .u32 2177026350, .int .u32 2456956037, .int .u32 2730485921, .int .u32 2820302411, .int .u32 3259730800, .int .u32 3345764771, .int .u32 3516065817, .int .u32 3600352804, .int .u32 4094571909, .int .u32 275423344, .int .u32 430227734, .int .u32 506948616, .int .u32 659060556, .int .u32 883997877, .int .u32 958139571, .int .u32 1322822218, .int .u32 1537002063, .int .u32 1747873779, .int .u32 1955562222, .int .u32 2024104815, .int .u32 2227730452, .int .u32 2361852424, .int .u32 2428436474, .int .u32 2756734187, .int .u32 3204031479, .int .u32 3329325298])]) (L2 := (rng 1 1)) 1 [0, 1] (by kernel_rfl) ?_
  refine wc_st (b := b1) (off := 0) (Tb := 88) (vs := ([.int .u32 1116352408, .int .u32 1899447441, .int .u32 3049323471, .int .u32 3921009573, .int .u32 961987163, .int .u32 1508970993, .int .u32 2453635748, .int .u32 2870763221, .int .u32 3624381080, .int .u32 310598401, .int .u32 607225278, .int .u32 1426881987, .int .u32 1925078388, .int .u32 2162078206, .int .u32 2614888103, .int .u32 3248222580, .int .u32 3835390401, .int .u32 4022224774, .int .u32 264347078, .int .u32 604807628, .int .u32 770255983, .int .u32 1249150122, .int .u32 1555081692, .int .u32 1996064986, .int .u32 2554220882, .int .u32 2821834349, .int .u32 2952996808, .int .u32 3210313671, .int .u32 3336571891, .int .u32 3584528711, .int .u32 113926993, .int .u32 338241895, .int .u32 666307205, .int .u32 773529912, .int .u32 1294757372, .int .u32 1396182291, .int .u32 1695183700, .int .u32 1986661051, .int .u32 2177026350, .int .u32 2456956037, .int .u32 2730485921, .int .u32 2820302411, .int .u32 3259730800, .int .u32 3345764771, .int .u32 3516065817, .int .u32 3600352804, .int .u32 4094571909, .int .u32 275423344, .int .u32 430227734, .int .u32 506948616, .int .u32 659060556, .int .u32 883997877, .int .u32 958139571, .int .u32 1322822218, .int .u32 1537002063, .int .u32 1747873779, .int .u32 1955562222, .int .u32 2024104815, .int .u32 2227730452, .int .u32 2361852424, .int .u32 2428436474, .int .u32 2756734187, .int .u32 3204031479, .int .u32 3329325298])) (cs' := ([.int .u32 1116352408, .int .u32 1899447441, .int .u32 3049323471, .int .u32 3921009573, .int .u32 961987163, .int .u32 1508970993, .int .u32 2453635748, .int .u32 2870763221, .int .u32 3624381080, .int .u32 310598401, .int .u32 607225278, .int .u32 1426881987, .int .u32 1925078388, .int .u32 2162078206, .int .u32 2614888103, .int .u32 3248222580, .int .u32 3835390401, .int .u32 4022224774, .int .u32 264347078, .int .u32 604807628, .int .u32 770255983, .int .u32 1249150122, .int .u32 1555081692, .int .u32 1996064986, .int .u32 2554220882, .int .u32 2821834349, .int .u32 2952996808, .int .u32 3210313671, .int .u32 3336571891, .int .u32 3584528711, .int .u32 113926993, .int .u32 338241895, .int .u32 666307205, .int .u32 773529912, .int .u32 1294757372, .int .u32 1396182291, .int .u32 1695183700, .int .u32 1986661051, .int .u32 2177026350, .int .u32 2456956037, .int .u32 2730485921, .int .u32 2820302411, .int .u32 3259730800, .int .u32 3345764771, .int .u32 3516065817, .int .u32 3600352804, .int .u32 4094571909, .int .u32 275423344, .int .u32 430227734, .int .u32 506948616, .int .u32 659060556, .int .u32 883997877, .int .u32 958139571, .int .u32 1322822218, .int .u32 1537002063, .int .u32 1747873779, .int .u32 1955562222, .int .u32 2024104815, .int .u32 2227730452, .int .u32 2361852424, .int .u32 2428436474, .int .u32 2756734187, .int .u32 3204031479, .int .u32 3329325298])) H 0 88 (.agg #[.int .u32 1116352408, .int .u32 1899447441, .int .u32 3049323471, .int .u32 3921009573, .int .u32 961987163, .int .u32 1508970993, .int .u32 2453635748, .int .u32 2870763221, .int .u32 3624381080, .int .u32 310598401, .int .u32 607225278, .int .u32 1426881987, .int .u32 1925078388, .int .u32 2162078206, .int .u32 2614888103, .int .u32 3248222580, .int .u32 3835390401, .int .u32 4022224774, .int .u32 264347078, .int .u32 604807628, .int .u32 770255983, .int .u32 1249150122, .int .u32 1555081692, .int .u32 1996064986, .int .u32 2554220882, .int .u32 2821834349, .int .u32 2952996808, .int .u32 3210313671, .int .u32 3336571891, .int .u32 3584528711, .int .u32 113926993, .int .u32 338241895, .int .u32 666307205, .int .u32 773529912, .int .u32 1294757372, .int .u32 1396182291, .int .u32 1695183700, .int .u32 1986661051, .int .u32 2177026350, .int .u32 2456956037, .int .u32 2730485921, .int .u32 2820302411, .int .u32 3259730800, .int .u32 3345764771, .int .u32 3516065817, .int .u32 3600352804, .int .u32 4094571909, .int .u32 275423344, .int .u32 430227734, .int .u32 506948616, .int .u32 659060556, .int .u32 883997877, .int .u32 958139571, .int .u32 1322822218, .int .u32 1537002063, .int .u32 1747873779, .int .u32 1955562222, .int .u32 2024104815, .int .u32 2227730452, .int .u32 2361852424, .int .u32 2428436474, .int .u32 2756734187, .int .u32 3204031479, .int .u32 3329325298]) 64 (by kernel_rfl) rfl rfl (by rfl) (by have h := (iv_length .u32 (List.replicate 64 0)).trans List.length_replicate; omega) (by simp [Value.oneCell']) (by first | rfl | exact blit_all _ _ (by first | (simp only [iv_length, List.length_set, List.length_replicate, *]; done) | (simp [iv_length, *]; done) | (simp [Value.cells, iv_length, *]; done) | omega | (simp [Value.cells, iv_length] <;> omega)) | (simp [blit, List.drop_append, List.take_append, iv_length, *]; done)) (fun w3 H => ?_)
  dsimp only [List.set] at H
  refine wc_nil rfl ?_
  refine n_sq ?_
  refine wn_ret (by kernel_rfl) ?_
  refine ret1 _ (Or.inr rfl) Try.results64 ⟨_, _, rfl, Ld.entW H 0 (n := 64) rfl (by kernel_rfl) (by rfl)⟩ ?_
  have he4 : K256 = [1116352408, 1899447441, 3049323471, 3921009573, 961987163, 1508970993, 2453635748, 2870763221, 3624381080, 310598401, 607225278, 1426881987, 1925078388, 2162078206, 2614888103, 3248222580, 3835390401, 4022224774, 264347078, 604807628, 770255983, 1249150122, 1555081692, 1996064986, 2554220882, 2821834349, 2952996808, 3210313671, 3336571891, 3584528711, 113926993, 338241895, 666307205, 773529912, 1294757372, 1396182291, 1695183700, 1986661051, 2177026350, 2456956037, 2730485921, 2820302411, 3259730800, 3345764771, 3516065817, 3600352804, 4094571909, 275423344, 430227734, 506948616, 659060556, 883997877, 958139571, 1322822218, 1537002063, 1747873779, 1955562222, 2024104815, 2227730452, 2361852424, 2428436474, 2756734187, 3204031479, 3329325298] := by
    rfl
  exact ⟨by first | (rw [he4]; done) | (rw [he4]; rfl), H.nil, by exact K256_length⟩

noncomputable def cd_bits_RotateLeft32 : Code := (Try.f67.body).getD .skip
theorem bits_RotateLeft32 (w : World) (x : Int) (k : Int)  :
    Calls Try.prog 67 #[.int .u32 x, .int .i64 k] w (fun e w' => e = .returned (.int .u32 (rotl x k)) ∧ Hp no w w' []) := by
  refine enter (args := [_, _]) (c := cd_bits_RotateLeft32) (N := 17) Try.func67 (by kernel_rfl) (by kernel_rfl) (by simp) ?_
  have H := Hp.start w
  refine wn_seq (by kernel_rfl) ?_
  refine wn_reg 1 (by kernel_rfl) ?_
  refine wc_run (T' := [(0, .int .u32 x), (1, .int .i64 k)]) (L2 := (rng 1 0)) 1 [0, 1] (by kernel_rfl) ?_
  refine wc_nil rfl ?_
  refine n_sq ?_
  refine wn_seq (by kernel_rfl) ?_
  refine wn_reg 4 (by kernel_rfl) ?_
  refine wc_run (T' := [(0, .int .u32 x), (5, .int .u64 (bnd .u64 (IntKind.u64.wrap (k)) 31))]) (L2 := (rng 4 0)) 4 [0, 5] (by kernel_rfl) ?_
  refine wc_nil rfl ?_
  refine n_sq ?_
  refine wn_seq (by kernel_rfl) ?_
  refine wn_reg 9 (by kernel_rfl) ?_
  refine wc_run (T' := [(0, .int .u32 x), (5, .int .u64 (bnd .u64 (IntKind.u64.wrap (k)) 31)), (9, .int .u32 x), (10, .int .u64 (bnd .u64 (IntKind.u64.wrap (k)) 31))]) (L2 := (rng 2 7)) 2 [0, 5, 9, 10] (by kernel_rfl) ?_
  refine wc_shl (some 11) .u32 x (bnd .u64 (IntKind.u64.wrap (k)) 31) (by kernel_rfl) (by kernel_rfl) (by first | omega | exact bnd_nn _ _ | exact wrap_nn _) ?_
  refine wc_run (T' := [(11, .int .u32 (shlV .u32 x (bnd .u64 (IntKind.u64.wrap (k)) 31))), (12, .int .u32 x), (14, .int .u64 (IntKind.u64.wrap (32 - (bnd .u64 (IntKind.u64.wrap (k)) 31))))]) (L2 := (rng 6 3)) 3 [11, 12, 14] (by kernel_rfl) ?_
  refine wc_shr (some 15) .u32 x (IntKind.u64.wrap (32 - (bnd .u64 (IntKind.u64.wrap (k)) 31))) (by kernel_rfl) (by kernel_rfl) (by first | omega | exact bnd_nn _ _ | exact wrap_nn _) ?_
  refine wc_run (T' := [(4, .int .u32 (bor .u32 (shlV .u32 x (bnd .u64 (IntKind.u64.wrap (k)) 31)) (shrV .u32 x (IntKind.u64.wrap (32 - (bnd .u64 (IntKind.u64.wrap (k)) 31))))))]) (L2 := (rng 9 0)) 2 [4] (by kernel_rfl) ?_
  refine wc_nil rfl ?_
  refine n_sq ?_
  refine wn_ret (by kernel_rfl) ?_
  refine ret1 _ (Or.inr rfl) Try.results67 rfl ?_
  have he1 : rotl x k = bor .u32 (shlV .u32 x (bnd .u64 (IntKind.u64.wrap (k)) 31)) (shrV .u32 x (IntKind.u64.wrap (32 - (bnd .u64 (IntKind.u64.wrap (k)) 31)))) := by
    rfl
  exact ⟨by first | (rw [he1]; done) | (rw [he1]; rfl), H.nil⟩

noncomputable def cd_proctorref01_turn : Code := (Try.f65.body).getD .skip
theorem proctorref01_turn (w : World) (x : Int) (n : Int) (hn : 0 ≤ n ∧ n ≤ 32) :
    Calls Try.prog 65 #[.int .u32 x, .int .u64 n] w (fun e w' => e = .returned (.int .u32 (rotr x n)) ∧ Hp no w w' []) := by
  refine enter (args := [_, _]) (c := cd_proctorref01_turn) (N := 13) Try.func65 (by kernel_rfl) (by kernel_rfl) (by simp) ?_
  have H := Hp.start w
  refine wn_seq (by kernel_rfl) ?_
  refine wn_reg 1 (by kernel_rfl) ?_
  refine wc_run (T' := [(0, .int .u32 x), (1, .int .u64 n)]) (L2 := (rng 1 0)) 1 [0, 1] (by kernel_rfl) ?_
  refine wc_nil rfl ?_
  refine n_sq ?_
  refine wn_seq (by kernel_rfl) ?_
  refine wn_reg 9 (by kernel_rfl) ?_
  refine wc_run (T' := [(0, .int .u32 x), (1, .int .u64 n), (5, .int .u32 x), (6, .int .u64 n)]) (L2 := (rng 2 7)) 2 [0, 1, 5, 6] (by kernel_rfl) ?_
  refine wc_shr (some 7) .u32 x n (by kernel_rfl) (by kernel_rfl) (by first | omega | exact bnd_nn _ _ | exact wrap_nn _) ?_
  refine wc_run (T' := [(7, .int .u32 (shrV .u32 x n)), (8, .int .u32 x), (10, .int .u64 (IntKind.u64.wrap (32 - n)))]) (L2 := (rng 6 3)) 3 [7, 8, 10] (by kernel_rfl) ?_
  refine wc_shl (some 11) .u32 x (IntKind.u64.wrap (32 - n)) (by kernel_rfl) (by kernel_rfl) (by first | omega | exact bnd_nn _ _ | exact wrap_nn _) ?_
  refine wc_run (T' := [(4, .int .u32 (bor .u32 (shrV .u32 x n) (shlV .u32 x (IntKind.u64.wrap (32 - n)))))]) (L2 := (rng 9 0)) 2 [4] (by kernel_rfl) ?_
  refine wc_nil rfl ?_
  refine n_sq ?_
  refine wn_ret (by kernel_rfl) ?_
  refine ret1 _ (Or.inr rfl) Try.results65 rfl ?_
  have he1 : rotr x n = bor .u32 (shrV .u32 x n) (shlV .u32 x (IntKind.u64.wrap (32 - n))) := by
    rfl
  exact ⟨by first | (rw [he1]; done) | (rw [he1]; rfl), H.nil⟩

noncomputable def cd_sha_turned : Code := (Try.f63.body).getD .skip
theorem sha_turned (w : World) (x : Int) (l : List Int) (A : Option Addr) (c : Nat) (hl : Rd w A (iv .i64 l)) (hs : ∀ j, 0 ≤ l.getD j 0 ∧ l.getD j 0 < 32) (hn : l.length ≤ 100) :
    Calls Try.prog 63 #[.int .u32 x, .slice A l.length c] w (fun e w' => e = .returned (.int .u32 (turnS x l)) ∧ Hp no w w' []) := by
  refine enter (args := [_, _]) (c := cd_sha_turned) (N := 22) Try.func63 (by kernel_rfl) (by kernel_rfl) (by simp) ?_
  have H := Hp.start w
  refine wn_seq (by kernel_rfl) ?_
  refine wn_reg 1 (by kernel_rfl) ?_
  refine wc_run (T' := [(0, .int .u32 x), (1, .slice A l.length c)]) (L2 := (rng 1 0)) 1 [0, 1] (by kernel_rfl) ?_
  refine wc_nil rfl ?_
  refine n_sq ?_
  refine wn_seq (by kernel_rfl) ?_
  refine wn_reg 1 (by kernel_rfl) ?_
  refine wc_run (T' := [(0, .int .u32 x), (1, .slice A l.length c), (5, .int .u32 0)]) (L2 := (rng 1 0)) 1 [0, 1, 5] (by kernel_rfl) ?_
  refine wc_nil rfl ?_
  refine n_sq ?_
  refine wn_seq (by kernel_rfl) ?_
  refine wn_seq (by kernel_rfl) ?_
  refine wn_reg 3 (by kernel_rfl) ?_
  refine wc_run (T' := [(0, .int .u32 x), (5, .int .u32 0), (8, .slice A l.length c), (9, .int .i64 (↑l.length : Int)), (10, .int .i64 0)]) (L2 := (rng 3 0)) 3 [0, 5, 8, 9, 10] (by kernel_rfl) ?_
  refine wc_nil rfl ?_
  refine n_sq ?_
  refine wn_block 0 (by kernel_rfl) ?_
  refine wn_loop (fun ((i, y) : Int × Int) => [(0, .int .u32 x), (5, .int .u32 y), (8, .slice A l.length c), (9, .int .i64 (↑l.length : Int)), (10, .int .i64 i)]) (fun ((i, y) : Int × Int) w' => Hp no w w' [] ∧ 0 ≤ i ∧ i ≤ l.length ∧ y = itN (tuS x l) i.toNat 0) (fun ((i, y) : Int × Int) => (l.length - i).toNat) ((0 : Int), (0 : Int)) [0, 5, 8, 9, 10] (by kernel_rfl) rfl ⟨H, by simp [itN]⟩ ?_
  rintro ⟨i, y⟩ w1 ⟨H, hi⟩
  try dsimp only at H hi
  refine wn_pick (T' := [(0, .int .u32 x), (5, .int .u32 y), (8, .slice A l.length c), (9, .int .i64 (↑l.length : Int)), (10, .int .i64 i)]) [0, 5, 8, 9, 10] (by kernel_rfl) ?_
  have hx := hs i.toNat
  refine wn_seq (by kernel_rfl) ?_
  refine wn_reg 1 (by kernel_rfl) ?_
  refine wc_run (T' := [(0, .int .u32 x), (5, .int .u32 y), (8, .slice A l.length c), (9, .int .i64 (↑l.length : Int)), (10, .int .i64 i), (11, .bool (decide (i < (↑l.length : Int))))]) (L2 := (rng 1 0)) 1 [0, 5, 8, 9, 10, 11] (by kernel_rfl) ?_
  refine wc_nil rfl ?_
  refine n_sq ?_
  refine wn_seq (by kernel_rfl) ?_
  refine wn_cond (.tmp 11) (decide (i < (↑l.length : Int))) (by kernel_rfl) rfl (fun hc2 => ?_) (fun hc2 => ?_)
  · have hc2 := of_decide_eq_true hc2
    refine wn_skip (by kernel_rfl) ?_
    refine n_sq ?_
    refine wn_seq (by kernel_rfl) ?_
    refine wn_block 1 (by kernel_rfl) ?_
    refine wn_seq (by kernel_rfl) ?_
    refine wn_reg 3 (by kernel_rfl) ?_
    refine wc_ixA (some 12) A l.length 1 i i.toNat (by kernel_rfl) (Rd.isSome (cs := (iv .i64 l)) (hl.keep H.keep) (by first | omega | (simp only [List.length_append, List.length_cons, List.length_nil, List.length_set, List.length_replicate, List.length_drop, List.length_take, iv_length, Nat.zero_add] at * <;> omega))) (by first | omega | (simp only [List.length_append, List.length_cons, List.length_nil, List.length_set, List.length_replicate, List.length_drop, List.length_take, iv_length, Nat.zero_add] at * <;> omega)) (by first | omega | (simp only [List.length_append, List.length_cons, List.length_nil, List.length_set, List.length_replicate, List.length_drop, List.length_take, iv_length, Nat.zero_add] at * <;> omega)) (by first | rfl | first | omega | (simp only [List.length_append, List.length_cons, List.length_nil, List.length_set, List.length_replicate, List.length_drop, List.length_take, iv_length, Nat.zero_add] at * <;> omega)) ?_
    refine wc_ldA (A := A) (cs := (iv .i64 l)) (hl.keep H.keep) (some 13) 3 i.toNat (.int .i64 (l.getD i.toNat 0)) (by kernel_rfl) (Or.inl ⟨by kernel_rfl, iv_get (by first | omega | (simp only [List.length_append, List.length_cons, List.length_nil, List.length_set, List.length_replicate, List.length_drop, List.length_take, iv_length, Nat.zero_add] at * <;> omega))⟩) ?_
    refine wc_run (T' := [(0, .int .u32 x), (5, .int .u32 y), (7, .int .i64 (l.getD i.toNat 0)), (8, .slice A l.length c), (9, .int .i64 (↑l.length : Int)), (10, .int .i64 i)]) (L2 := (rng 3 0)) 1 [0, 5, 7, 8, 9, 10] (by kernel_rfl) ?_
    refine wc_nil rfl ?_
    refine n_sq ?_
    refine wn_reg 7 (by kernel_rfl) ?_
    refine wc_run (T' := [(0, .int .u32 x), (8, .slice A l.length c), (9, .int .i64 (↑l.length : Int)), (10, .int .i64 i), (14, .int .u32 y), (15, .int .u32 x), (17, .int .i64 (IntKind.i64.wrap (0 - (l.getD i.toNat 0))))]) (L2 := (rng 4 3)) 4 [0, 8, 9, 10, 14, 15, 17] (by kernel_rfl) ?_
    rw [wi64 (x := 0 - (l.getD i.toNat 0)) (by first | omega | (simp only [List.length_append, List.length_cons, List.length_nil, List.length_set, List.length_replicate, List.length_drop, List.length_take, iv_length, Nat.zero_add] at * <;> omega)) (by first | omega | (simp only [List.length_append, List.length_cons, List.length_nil, List.length_set, List.length_replicate, List.length_drop, List.length_take, iv_length, Nat.zero_add] at * <;> omega))]
    refine wc_call (some 18) (by kernel_rfl) (bits_RotateLeft32 w1 x (0 - (l.getD i.toNat 0))) ?_
    rintro _ w3 ⟨rfl, H1⟩
    refine ⟨_, rfl, fun _ => H1.keep, ?_⟩
    replace H := H.call H1
    simp only [List.nil_append] at H
    refine wc_run (T' := [(0, .int .u32 x), (5, .int .u32 (bxr .u32 y (rotl x (0 - (l.getD i.toNat 0))))), (8, .slice A l.length c), (9, .int .i64 (↑l.length : Int)), (10, .int .i64 i)]) (L2 := (rng 7 0)) 2 [0, 5, 8, 9, 10] (by kernel_rfl) ?_
    refine wc_nil rfl ?_
    refine n_blk ?_
    refine n_sq ?_
    refine wn_reg 2 (by kernel_rfl) ?_
    refine wc_run (T' := [(0, .int .u32 x), (5, .int .u32 (bxr .u32 y (rotl x (0 - (l.getD i.toNat 0))))), (8, .slice A l.length c), (9, .int .i64 (↑l.length : Int)), (20, .int .i64 (IntKind.i64.wrap (i + 1)))]) (L2 := (rng 1 1)) 1 [0, 5, 8, 9, 20] (by kernel_rfl) ?_
    rw [wi64 (x := i + 1) (by first | omega | (simp only [List.length_append, List.length_cons, List.length_nil, List.length_set, List.length_replicate, List.length_drop, List.length_take, iv_length, Nat.zero_add] at * <;> omega)) (by first | omega | (simp only [List.length_append, List.length_cons, List.length_nil, List.length_set, List.length_replicate, List.length_drop, List.length_take, iv_length, Nat.zero_add] at * <;> omega))]
    refine wc_run (T' := [(0, .int .u32 x), (5, .int .u32 (bxr .u32 y (rotl x (0 - (l.getD i.toNat 0))))), (8, .slice A l.length c), (9, .int .i64 (↑l.length : Int)), (10, .int .i64 (i + 1))]) (L2 := (rng 2 0)) 1 [0, 5, 8, 9, 10] (by kernel_rfl) ?_
    refine wc_nil rfl ?_
    refine round_end (i + 1, bxr .u32 y (rotl x (0 - (l.getD i.toNat 0)))) [0, 5, 8, 9, 10] (by kernel_rfl) ⟨H, ?_⟩ ?_
    · obtain ⟨h1, h2, h3⟩ := hi
      have e1 : (i + 1).toNat = i.toNat + 1 := by omega
      refine ⟨by omega, by omega, ?_⟩
      rw [e1, itN, tuS, ← h3]
    · first | omega | (dsimp only; omega)
  · have hc2 := of_decide_eq_false hc2
    refine wn_exit 0 (by kernel_rfl) ?_
    refine e_sq ?_
    refine e_then ?_
    refine e_blk ?_
    refine n_sq ?_
    refine wn_seq (by kernel_rfl) ?_
    refine wn_reg 2 (by kernel_rfl) ?_
    refine wc_run (T' := [(4, .int .u32 y)]) (L2 := (rng 2 0)) 2 [4] (by kernel_rfl) ?_
    refine wc_nil rfl ?_
    refine n_sq ?_
    refine wn_ret (by kernel_rfl) ?_
    refine ret1 _ (Or.inr rfl) Try.results63 rfl ?_
    have he4 : turnS x l = y := by
      obtain ⟨h1, h2, h3⟩ := hi
      have e : i.toNat = l.length := by omega
      rw [h3, e, turnS]
    exact ⟨by first | (rw [he4]; done) | (rw [he4]; rfl), H.nil⟩

noncomputable def cd_sha_spread : Code := (Try.f62.body).getD .skip
theorem sha_spread (w : World) (b : List Int) (A : Option Addr) (c : Nat) (nb : Nat) (hb : Rd w A (iv .u8 b)) (hbl : b.length = 64) (hnb : nb = 64) :
    Calls Try.prog 62 #[.slice A nb c] w (fun e w' => e = .returned (.agg (iv .u32 (spF b)).toArray) ∧ Hp no w w' [] ∧ (spF b).length = 64) := by
  refine enter (args := [_]) (c := cd_sha_spread) (N := 76) Try.func62 (by kernel_rfl) (by kernel_rfl) (by simp) ?_
  have H := Hp.start w
  refine wn_seq (by kernel_rfl) ?_
  refine wn_reg 1 (by kernel_rfl) ?_
  refine wc_new H (some 2) (row (iv .u32 (List.replicate 64 0)) 88) (fun r => .pointer (some ⟨r, 0, none⟩)) (by kernel_rfl) (fun b1 w2 H => ?_)
  refine wc_nil rfl ?_
  refine n_sq ?_
  refine wn_seq (by kernel_rfl) ?_
  refine wn_reg 1 (by kernel_rfl) ?_
  refine wc_new H (some 3) (row (iv .u32 (List.replicate 64 0)) 88) (fun r => .pointer (some ⟨r, 0, none⟩)) (by kernel_rfl) (fun b3 w4 H => ?_)
  refine wc_nil rfl ?_
  refine n_sq ?_
  refine wn_seq (by kernel_rfl) ?_
  refine wn_seq (by kernel_rfl) ?_
  refine wn_reg 1 (by kernel_rfl) ?_
  refine wc_run (T' := [(0, .slice A nb c), (2, .pointer (some ⟨b1, 0, none⟩)), (3, .pointer (some ⟨b3, 0, none⟩)), (8, .int .i64 0)]) (L2 := (rng 1 0)) 1 [0, 2, 3, 8] (by kernel_rfl) ?_
  refine wc_nil rfl ?_
  refine n_sq ?_
  refine wn_block 0 (by kernel_rfl) ?_
  refine wn_loop (fun ((i, q) : Int × List Int) => [(0, .slice A nb c), (2, .pointer (some ⟨b1, 0, none⟩)), (3, .pointer (some ⟨b3, 0, none⟩)), (8, .int .i64 i)]) (fun ((i, q) : Int × List Int) w' => Hp no w w' [.bk b3 (row (iv .u32 q) 88), .bk b1 (row (iv .u32 (List.replicate 64 0)) 88)] ∧ 0 ≤ i ∧ i ≤ 64 ∧ q.length = 64 ∧ q = itN (wd4S b) i.toNat (List.replicate 64 0)) (fun ((i, q) : Int × List Int) => (64 - i).toNat) ((0 : Int), (List.replicate 64 0)) [0, 2, 3, 8] (by kernel_rfl) rfl ⟨H, by simp [itN]⟩ ?_
  rintro ⟨i, q⟩ w5 ⟨H, hi⟩
  try dsimp only at H hi
  refine wn_pick (T' := [(0, .slice A nb c), (2, .pointer (some ⟨b1, 0, none⟩)), (3, .pointer (some ⟨b3, 0, none⟩)), (8, .int .i64 i)]) [0, 2, 3, 8] (by kernel_rfl) ?_
  refine wn_seq (by kernel_rfl) ?_
  refine wn_reg 1 (by kernel_rfl) ?_
  refine wc_run (T' := [(0, .slice A nb c), (2, .pointer (some ⟨b1, 0, none⟩)), (3, .pointer (some ⟨b3, 0, none⟩)), (8, .int .i64 i), (9, .bool (decide (i < (64 : Int))))]) (L2 := (rng 1 0)) 1 [0, 2, 3, 8, 9] (by kernel_rfl) ?_
  refine wc_nil rfl ?_
  refine n_sq ?_
  refine wn_seq (by kernel_rfl) ?_
  refine wn_cond (.tmp 9) (decide (i < (64 : Int))) (by kernel_rfl) rfl (fun hc6 => ?_) (fun hc6 => ?_)
  · have hc6 := of_decide_eq_true hc6
    refine wn_skip (by kernel_rfl) ?_
    refine n_sq ?_
    refine wn_seq (by kernel_rfl) ?_
    refine wn_block 1 (by kernel_rfl) ?_
    refine wn_seq (by kernel_rfl) ?_
    refine wn_reg 2 (by kernel_rfl) ?_
    refine wc_run (T' := [(0, .slice A nb c), (2, .pointer (some ⟨b1, 0, none⟩)), (3, .pointer (some ⟨b3, 0, none⟩)), (4, .int .i64 i), (8, .int .i64 i)]) (L2 := (rng 2 0)) 2 [0, 2, 3, 4, 8] (by kernel_rfl) ?_
    refine wc_nil rfl ?_
    refine n_sq ?_
    refine wn_regD [] (ol [0, 1, 2, 3, 4, 5, 6, 7, 8, 9, 10, 11, 12, 13, 14]) (by kernel_rfl) H (fun w7 H => ?_)
    refine wc_run (T' := [(0, .slice A nb c), (2, .pointer (some ⟨b1, 0, none⟩)), (3, .pointer (some ⟨b3, 0, none⟩)), (4, .int .i64 i), (8, .int .i64 i), (12, .int .i64 (IntKind.i64.wrap (i.tdiv 4)))]) (L2 := (ol [2, 3, 4, 5, 6, 7, 8, 9, 10, 11, 12, 13, 14])) 2 [0, 2, 3, 4, 8, 12] (by kernel_rfl) ?_
    rw [Int.tdiv_eq_ediv_of_nonneg (a := i) (b := 4) (by first | omega | (simp only [List.length_append, List.length_cons, List.length_nil, List.length_set, List.length_replicate, List.length_drop, List.length_take, iv_length, Nat.zero_add] at * <;> omega))]
    rw [wi64 (x := i / 4) (by first | omega | (simp only [List.length_append, List.length_cons, List.length_nil, List.length_set, List.length_replicate, List.length_drop, List.length_take, iv_length, Nat.zero_add] at * <;> omega)) (by first | omega | (simp only [List.length_append, List.length_cons, List.length_nil, List.length_set, List.length_replicate, List.length_drop, List.length_take, iv_length, Nat.zero_add] at * <;> omega))]
    refine wc_run (T' := [(0, .slice A nb c), (2, .pointer (some ⟨b1, 0, none⟩)), (3, .pointer (some ⟨b3, 0, none⟩)), (4, .int .i64 i), (8, .int .i64 i), (12, .int .i64 (i / 4)), (14, .int .i64 (IntKind.i64.wrap (i.tdiv 4)))]) (L2 := (ol [4, 5, 6, 7, 8, 9, 10, 11, 12, 13, 14])) 2 [0, 2, 3, 4, 8, 12, 14] (by kernel_rfl) ?_
    rw [Int.tdiv_eq_ediv_of_nonneg (a := i) (b := 4) (by first | omega | (simp only [List.length_append, List.length_cons, List.length_nil, List.length_set, List.length_replicate, List.length_drop, List.length_take, iv_length, Nat.zero_add] at * <;> omega))]
    rw [wi64 (x := i / 4) (by first | omega | (simp only [List.length_append, List.length_cons, List.length_nil, List.length_set, List.length_replicate, List.length_drop, List.length_take, iv_length, Nat.zero_add] at * <;> omega)) (by first | omega | (simp only [List.length_append, List.length_cons, List.length_nil, List.length_set, List.length_replicate, List.length_drop, List.length_take, iv_length, Nat.zero_add] at * <;> omega))]
    refine wc_ix (b := b3) (off := 0) (o' := (i / 4).toNat) (some 15) (some ⟨b3, 0, none⟩) 64 1 (i / 4) (by kernel_rfl) rfl (by omega) (by omega) (by omega) ?_
    refine wc_ld (b := b3) (off := (i / 4).toNat) (some 16) 87 (.int .u32 (q.getD ((i / 4).toNat) 0)) (by kernel_rfl) (Ld.ent1 H 0 rfl (by kernel_rfl) (iv_get (by first | (simp only [iv_length, List.length_set, List.length_replicate, *]; done) | (simp [iv_length, *]; done) | (simp [Value.cells, iv_length, *]; done) | omega | (simp [Value.cells, iv_length] <;> omega)))) ?_
    refine wc_run (T' := [(0, .slice A nb c), (2, .pointer (some ⟨b1, 0, none⟩)), (3, .pointer (some ⟨b3, 0, none⟩)), (8, .int .i64 i), (12, .int .i64 (i / 4)), (17, .int .u32 (shlV .u32 (q.getD ((i / 4).toNat) 0) 8)), (18, .slice A nb c), (19, .int .i64 i)]) (L2 := (ol [9, 10, 11, 12, 13, 14])) 3 [0, 2, 3, 8, 12, 17, 18, 19] (by kernel_rfl) ?_
    refine wc_ixA (some 20) A nb 1 i i.toNat (by kernel_rfl) (Rd.isSome (cs := (iv .u8 b)) (hb.keep H.keep) (by first | omega | (simp only [List.length_append, List.length_cons, List.length_nil, List.length_set, List.length_replicate, List.length_drop, List.length_take, iv_length, Nat.zero_add] at * <;> omega))) (by first | omega | (simp only [List.length_append, List.length_cons, List.length_nil, List.length_set, List.length_replicate, List.length_drop, List.length_take, iv_length, Nat.zero_add] at * <;> omega)) (by first | omega | (simp only [List.length_append, List.length_cons, List.length_nil, List.length_set, List.length_replicate, List.length_drop, List.length_take, iv_length, Nat.zero_add] at * <;> omega)) (by first | rfl | first | omega | (simp only [List.length_append, List.length_cons, List.length_nil, List.length_set, List.length_replicate, List.length_drop, List.length_take, iv_length, Nat.zero_add] at * <;> omega)) ?_
    refine wc_ldA (A := A) (cs := (iv .u8 b)) (hb.keep H.keep) (some 21) 5 i.toNat (.int .u8 (b.getD i.toNat 0)) (by kernel_rfl) (Or.inl ⟨by kernel_rfl, iv_get (by first | omega | (simp only [List.length_append, List.length_cons, List.length_nil, List.length_set, List.length_replicate, List.length_drop, List.length_take, iv_length, Nat.zero_add] at * <;> omega))⟩) ?_
    refine wc_run (T' := [(0, .slice A nb c), (2, .pointer (some ⟨b1, 0, none⟩)), (3, .pointer (some ⟨b3, 0, none⟩)), (8, .int .i64 i), (12, .int .i64 (i / 4)), (23, .int .u32 (bor .u32 (shlV .u32 (q.getD ((i / 4).toNat) 0) 8) (IntKind.u32.wrap (b.getD i.toNat 0))))]) (L2 := (ol [13, 14])) 2 [0, 2, 3, 8, 12, 23] (by kernel_rfl) ?_
    refine wc_ix (b := b3) (off := 0) (o' := (i / 4).toNat) (some 24) (some ⟨b3, 0, none⟩) 64 1 (i / 4) (by kernel_rfl) rfl (by omega) (by omega) (by omega) ?_
    refine wc_st (b := b3) (off := (i / 4).toNat) (Tb := 88) (vs := ([.int .u32 (bor .u32 (shlV .u32 (q.getD ((i / 4).toNat) 0) 8) (IntKind.u32.wrap (b.getD i.toNat 0)))])) (cs' := (iv .u32 (q.set ((i / 4).toNat) (bor .u32 (shlV .u32 (q.getD ((i / 4).toNat) 0) 8) (IntKind.u32.wrap (b.getD i.toNat 0)))))) H 0 87 (.int .u32 (bor .u32 (shlV .u32 (q.getD ((i / 4).toNat) 0) 8) (IntKind.u32.wrap (b.getD i.toNat 0)))) 1 (by kernel_rfl) rfl rfl (by rfl) (by first | (simp only [iv_length, List.length_set, List.length_replicate, *]; done) | (simp [iv_length, *]; done) | (simp [Value.cells, iv_length, *]; done) | omega | (simp [Value.cells, iv_length] <;> omega)) (by simp [Value.oneCell']) (by exact iv_set _ _ _ _ (by first | (simp only [iv_length, List.length_set, List.length_replicate, *]; done) | (simp [iv_length, *]; done) | (simp [Value.cells, iv_length, *]; done) | omega | (simp [Value.cells, iv_length] <;> omega))) (fun w8 H => ?_)
    dsimp only [List.set] at H
    refine wc_nil rfl ?_
    refine n_np ?_
    refine n_blk ?_
    refine n_sq ?_
    refine wn_reg 2 (by kernel_rfl) ?_
    refine wc_run (T' := [(0, .slice A nb c), (2, .pointer (some ⟨b1, 0, none⟩)), (3, .pointer (some ⟨b3, 0, none⟩)), (25, .int .i64 (IntKind.i64.wrap (i + 1)))]) (L2 := (rng 1 1)) 1 [0, 2, 3, 25] (by kernel_rfl) ?_
    rw [wi64 (x := i + 1) (by first | omega | (simp only [List.length_append, List.length_cons, List.length_nil, List.length_set, List.length_replicate, List.length_drop, List.length_take, iv_length, Nat.zero_add] at * <;> omega)) (by first | omega | (simp only [List.length_append, List.length_cons, List.length_nil, List.length_set, List.length_replicate, List.length_drop, List.length_take, iv_length, Nat.zero_add] at * <;> omega))]
    refine wc_run (T' := [(0, .slice A nb c), (2, .pointer (some ⟨b1, 0, none⟩)), (3, .pointer (some ⟨b3, 0, none⟩)), (8, .int .i64 (i + 1))]) (L2 := (rng 2 0)) 1 [0, 2, 3, 8] (by kernel_rfl) ?_
    refine wc_nil rfl ?_
    refine round_end (i + 1, q.set ((i / 4).toNat) (bor .u32 (shlV .u32 (q.getD ((i / 4).toNat) 0) 8) (IntKind.u32.wrap (b.getD i.toNat 0)))) [0, 2, 3, 8] (by kernel_rfl) ⟨H, ?_⟩ ?_
    · obtain ⟨h1, h2, h3, h4⟩ := hi
      have e1 : (i + 1).toNat = i.toNat + 1 := by omega
      have e2 : (i / 4).toNat = i.toNat / 4 := by omega
      refine ⟨by omega, by omega, by simp [h3], ?_⟩
      rw [e1, e2, itN, wd4S, ← h4]
    · first | omega | (dsimp only; omega)
  · have hc6 := of_decide_eq_false hc6
    refine wn_exit 0 (by kernel_rfl) ?_
    refine e_sq ?_
    refine e_then ?_
    refine e_blk ?_
    refine n_sq ?_
    refine wn_seq (by kernel_rfl) ?_
    refine wn_seq (by kernel_rfl) ?_
    refine wn_reg 1 (by kernel_rfl) ?_
    refine wc_run (T' := [(2, .pointer (some ⟨b1, 0, none⟩)), (3, .pointer (some ⟨b3, 0, none⟩)), (5, .int .i64 16)]) (L2 := (rng 1 0)) 1 [2, 3, 5] (by kernel_rfl) ?_
    refine wc_nil rfl ?_
    refine n_sq ?_
    refine wn_block 2 (by kernel_rfl) ?_
    refine wn_loop (fun ((t, q) : Int × List Int) => [(2, .pointer (some ⟨b1, 0, none⟩)), (3, .pointer (some ⟨b3, 0, none⟩)), (5, .int .i64 t)]) (fun ((t, q) : Int × List Int) w' => Hp no w w' [.bk b3 (row (iv .u32 q) 88), .bk b1 (row (iv .u32 (List.replicate 64 0)) 88)] ∧ 16 ≤ t ∧ t ≤ 64 ∧ q.length = 64 ∧ q = itN spS (t.toNat - 16) (spI b)) (fun ((t, q) : Int × List Int) => (64 - t).toNat) ((16 : Int), q) [2, 3, 5] (by kernel_rfl) rfl ⟨H, by
  obtain ⟨h1, h2, h3, h4⟩ := hi
  have e : i.toNat = 64 := by omega
  exact ⟨by omega, by omega, h3, by rw [h4, e]; rfl⟩⟩ ?_
    rintro ⟨t, q⟩ w9 ⟨H, hi⟩
    try dsimp only at H hi
    refine wn_pick (T' := [(2, .pointer (some ⟨b1, 0, none⟩)), (3, .pointer (some ⟨b3, 0, none⟩)), (5, .int .i64 t)]) [2, 3, 5] (by kernel_rfl) ?_
    refine wn_seq (by kernel_rfl) ?_
    refine wn_seq (by kernel_rfl) ?_
    refine wn_reg 2 (by kernel_rfl) ?_
    refine wc_run (T' := [(2, .pointer (some ⟨b1, 0, none⟩)), (3, .pointer (some ⟨b3, 0, none⟩)), (5, .int .i64 t), (27, .bool (decide (t < (64 : Int))))]) (L2 := (rng 2 0)) 2 [2, 3, 5, 27] (by kernel_rfl) ?_
    refine wc_nil rfl ?_
    refine n_sq ?_
    refine wn_cond (.tmp 27) (decide (t < (64 : Int))) (by kernel_rfl) rfl (fun hc10 => ?_) (fun hc10 => ?_)
    · have hc10 := of_decide_eq_true hc10
      refine wn_skip (by kernel_rfl) ?_
      refine n_sq ?_
      refine wn_seq (by kernel_rfl) ?_
      refine wn_block 3 (by kernel_rfl) ?_
      refine wn_seq (by kernel_rfl) ?_
      refine wn_regD [] (ol [0, 1, 2, 3, 4, 5, 6, 7, 8, 9]) (by kernel_rfl) H (fun w11 H => ?_)
      refine wc_run (T' := [(2, .pointer (some ⟨b1, 0, none⟩)), (3, .pointer (some ⟨b3, 0, none⟩)), (5, .int .i64 t), (31, .int .i64 (IntKind.i64.wrap (t - 2)))]) (L2 := (ol [2, 3, 4, 5, 6, 7, 8, 9])) 2 [2, 3, 5, 31] (by kernel_rfl) ?_
      rw [wi64 (x := t - 2) (by first | omega | (simp only [List.length_append, List.length_cons, List.length_nil, List.length_set, List.length_replicate, List.length_drop, List.length_take, iv_length, Nat.zero_add] at * <;> omega)) (by first | omega | (simp only [List.length_append, List.length_cons, List.length_nil, List.length_set, List.length_replicate, List.length_drop, List.length_take, iv_length, Nat.zero_add] at * <;> omega))]
      refine wc_ix (b := b3) (off := 0) (o' := (t - 2).toNat) (some 32) (some ⟨b3, 0, none⟩) 64 1 (t - 2) (by kernel_rfl) rfl (by omega) (by omega) (by omega) ?_
      refine wc_ld (b := b3) (off := (t - 2).toNat) (some 33) 87 (.int .u32 (q.getD ((t - 2).toNat) 0)) (by kernel_rfl) (Ld.ent1 H 0 rfl (by kernel_rfl) (iv_get (by first | (simp only [iv_length, List.length_set, List.length_replicate, *]; done) | (simp [iv_length, *]; done) | (simp [Value.cells, iv_length, *]; done) | omega | (simp [Value.cells, iv_length] <;> omega)))) ?_
      refine wc_run (T' := [(2, .pointer (some ⟨b1, 0, none⟩)), (3, .pointer (some ⟨b3, 0, none⟩)), (5, .int .i64 t), (33, .int .u32 (q.getD ((t - 2).toNat) 0)), (35, .int .i64 (IntKind.i64.wrap (t - 15)))]) (L2 := (ol [6, 7, 8, 9])) 2 [2, 3, 5, 33, 35] (by kernel_rfl) ?_
      rw [wi64 (x := t - 15) (by first | omega | (simp only [List.length_append, List.length_cons, List.length_nil, List.length_set, List.length_replicate, List.length_drop, List.length_take, iv_length, Nat.zero_add] at * <;> omega)) (by first | omega | (simp only [List.length_append, List.length_cons, List.length_nil, List.length_set, List.length_replicate, List.length_drop, List.length_take, iv_length, Nat.zero_add] at * <;> omega))]
      refine wc_ix (b := b3) (off := 0) (o' := (t - 15).toNat) (some 36) (some ⟨b3, 0, none⟩) 64 1 (t - 15) (by kernel_rfl) rfl (by omega) (by omega) (by omega) ?_
      refine wc_ld (b := b3) (off := (t - 15).toNat) (some 37) 87 (.int .u32 (q.getD ((t - 15).toNat) 0)) (by kernel_rfl) (Ld.ent1 H 0 rfl (by kernel_rfl) (iv_get (by first | (simp only [iv_length, List.length_set, List.length_replicate, *]; done) | (simp [iv_length, *]; done) | (simp [Value.cells, iv_length, *]; done) | omega | (simp [Value.cells, iv_length] <;> omega)))) ?_
      refine wc_run (T' := [(2, .pointer (some ⟨b1, 0, none⟩)), (3, .pointer (some ⟨b3, 0, none⟩)), (5, .int .i64 t), (6, .int .u32 (q.getD ((t - 2).toNat) 0)), (7, .int .u32 (q.getD ((t - 15).toNat) 0))]) (L2 := (ol [])) 2 [2, 3, 5, 6, 7] (by kernel_rfl) ?_
      refine wc_nil rfl ?_
      refine n_np ?_
      refine n_sq ?_
      refine wn_seq (by kernel_rfl) ?_
      refine wn_reg 9 (by kernel_rfl) ?_
      refine wc_run (T' := [(2, .pointer (some ⟨b1, 0, none⟩)), (3, .pointer (some ⟨b3, 0, none⟩)), (5, .int .i64 t), (6, .int .u32 (q.getD ((t - 2).toNat) 0)), (7, .int .u32 (q.getD ((t - 15).toNat) 0)), (38, .int .i64 t), (39, .int .u32 (q.getD ((t - 2).toNat) 0))]) (L2 := (rng 2 7)) 2 [2, 3, 5, 6, 7, 38, 39] (by kernel_rfl) ?_
      refine wc_new H (some 40) (row ([.int .i64 17, .int .i64 19]) 3) (fun r => .slice (some ⟨r, 0, none⟩) 2 2) (by kernel_rfl) (fun b12 w13 H => ?_)
      refine wc_call (some 41) (by kernel_rfl) (sha_turned w13 (q.getD ((t - 2).toNat) 0) ([17, 19]) (some ⟨b12, 0, none⟩) 2 (Rd.of_ent H (k := 0) (off := 0) (n := 2) rfl (by rfl)) (get_of_mem (p := fun x => 0 ≤ x ∧ x < 32) (by omega) (by decide)) (by decide)) ?_
      rintro _ w14 ⟨rfl, H1⟩
      refine ⟨_, rfl, fun _ => H1.keep, ?_⟩
      replace H := H.call H1
      simp only [List.nil_append] at H
      refine wc_run (T' := [(2, .pointer (some ⟨b1, 0, none⟩)), (3, .pointer (some ⟨b3, 0, none⟩)), (5, .int .i64 t), (7, .int .u32 (q.getD ((t - 15).toNat) 0)), (38, .int .i64 t), (44, .int .u32 (bxr .u32 (turnS (q.getD ((t - 2).toNat) 0) ([17, 19])) (shrV .u32 (q.getD ((t - 2).toNat) 0) 10)))]) (L2 := (rng 7 2)) 3 [2, 3, 5, 7, 38, 44] (by kernel_rfl) ?_
      refine wc_ix (b := b3) (off := 0) (o' := t.toNat) (some 45) (some ⟨b3, 0, none⟩) 64 1 t (by kernel_rfl) rfl (by omega) (by omega) (by omega) ?_
      refine wc_st (b := b3) (off := t.toNat) (Tb := 88) (vs := ([.int .u32 (bxr .u32 (turnS (q.getD ((t - 2).toNat) 0) ([17, 19])) (shrV .u32 (q.getD ((t - 2).toNat) 0) 10))])) (cs' := (iv .u32 (q.set t.toNat (bxr .u32 (turnS (q.getD ((t - 2).toNat) 0) ([17, 19])) (shrV .u32 (q.getD ((t - 2).toNat) 0) 10))))) H 1 87 (.int .u32 (bxr .u32 (turnS (q.getD ((t - 2).toNat) 0) ([17, 19])) (shrV .u32 (q.getD ((t - 2).toNat) 0) 10))) 1 (by kernel_rfl) rfl rfl (by rfl) (by first | (simp only [iv_length, List.length_set, List.length_replicate, *]; done) | (simp [iv_length, *]; done) | (simp [Value.cells, iv_length, *]; done) | omega | (simp [Value.cells, iv_length] <;> omega)) (by simp [Value.oneCell']) (by exact iv_set _ _ _ _ (by first | (simp only [iv_length, List.length_set, List.length_replicate, *]; done) | (simp [iv_length, *]; done) | (simp [Value.cells, iv_length, *]; done) | omega | (simp [Value.cells, iv_length] <;> omega))) (fun w15 H => ?_)
      dsimp only [List.set] at H
      refine wc_nil rfl ?_
      refine n_sq ?_
      refine wn_seq (by kernel_rfl) ?_
      refine wn_regD [] (ol [0, 1, 2, 3, 4, 5, 6, 7, 8, 9]) (by kernel_rfl) H (fun w16 H => ?_)
      refine wc_run (T' := [(2, .pointer (some ⟨b1, 0, none⟩)), (3, .pointer (some ⟨b3, 0, none⟩)), (5, .int .i64 t), (7, .int .u32 (q.getD ((t - 15).toNat) 0)), (46, .int .i64 t)]) (L2 := (ol [1, 2, 3, 4, 5, 6, 7, 8, 9])) 1 [2, 3, 5, 7, 46] (by kernel_rfl) ?_
      refine wc_ix (b := b3) (off := 0) (o' := t.toNat) (some 47) (some ⟨b3, 0, none⟩) 64 1 t (by kernel_rfl) rfl (by omega) (by omega) (by omega) ?_
      refine wc_ld (b := b3) (off := t.toNat) (some 48) 87 (.int .u32 ((q.set t.toNat (bxr .u32 (turnS (q.getD ((t - 2).toNat) 0) ([17, 19])) (shrV .u32 (q.getD ((t - 2).toNat) 0) 10))).getD t.toNat 0)) (by kernel_rfl) (Ld.ent1 H 1 rfl (by kernel_rfl) (iv_get (by first | (simp only [iv_length, List.length_set, List.length_replicate, *]; done) | (simp [iv_length, *]; done) | (simp [Value.cells, iv_length, *]; done) | omega | (simp [Value.cells, iv_length] <;> omega)))) ?_
      refine wc_run (T' := [(2, .pointer (some ⟨b1, 0, none⟩)), (3, .pointer (some ⟨b3, 0, none⟩)), (5, .int .i64 t), (7, .int .u32 (q.getD ((t - 15).toNat) 0)), (46, .int .i64 t), (48, .int .u32 ((q.set t.toNat (bxr .u32 (turnS (q.getD ((t - 2).toNat) 0) ([17, 19])) (shrV .u32 (q.getD ((t - 2).toNat) 0) 10))).getD t.toNat 0)), (50, .int .i64 (IntKind.i64.wrap (t - 7)))]) (L2 := (ol [5, 6, 7, 8, 9])) 2 [2, 3, 5, 7, 46, 48, 50] (by kernel_rfl) ?_
      rw [wi64 (x := t - 7) (by first | omega | (simp only [List.length_append, List.length_cons, List.length_nil, List.length_set, List.length_replicate, List.length_drop, List.length_take, iv_length, Nat.zero_add] at * <;> omega)) (by first | omega | (simp only [List.length_append, List.length_cons, List.length_nil, List.length_set, List.length_replicate, List.length_drop, List.length_take, iv_length, Nat.zero_add] at * <;> omega))]
      refine wc_ix (b := b3) (off := 0) (o' := (t - 7).toNat) (some 51) (some ⟨b3, 0, none⟩) 64 1 (t - 7) (by kernel_rfl) rfl (by omega) (by omega) (by omega) ?_
      refine wc_ld (b := b3) (off := (t - 7).toNat) (some 52) 87 (.int .u32 ((q.set t.toNat (bxr .u32 (turnS (q.getD ((t - 2).toNat) 0) ([17, 19])) (shrV .u32 (q.getD ((t - 2).toNat) 0) 10))).getD ((t - 7).toNat) 0)) (by kernel_rfl) (Ld.ent1 H 1 rfl (by kernel_rfl) (iv_get (by first | (simp only [iv_length, List.length_set, List.length_replicate, *]; done) | (simp [iv_length, *]; done) | (simp [Value.cells, iv_length, *]; done) | omega | (simp [Value.cells, iv_length] <;> omega)))) ?_
      refine wc_run (T' := [(2, .pointer (some ⟨b1, 0, none⟩)), (3, .pointer (some ⟨b3, 0, none⟩)), (5, .int .i64 t), (7, .int .u32 (q.getD ((t - 15).toNat) 0)), (46, .int .i64 t), (53, .int .u32 (IntKind.u32.wrap (((q.set t.toNat (bxr .u32 (turnS (q.getD ((t - 2).toNat) 0) ([17, 19])) (shrV .u32 (q.getD ((t - 2).toNat) 0) 10))).getD t.toNat 0) + ((q.set t.toNat (bxr .u32 (turnS (q.getD ((t - 2).toNat) 0) ([17, 19])) (shrV .u32 (q.getD ((t - 2).toNat) 0) 10))).getD ((t - 7).toNat) 0))))]) (L2 := (ol [8, 9])) 1 [2, 3, 5, 7, 46, 53] (by kernel_rfl) ?_
      refine wc_ix (b := b3) (off := 0) (o' := t.toNat) (some 54) (some ⟨b3, 0, none⟩) 64 1 t (by kernel_rfl) rfl (by omega) (by omega) (by omega) ?_
      refine wc_st (b := b3) (off := t.toNat) (Tb := 88) (vs := ([.int .u32 (IntKind.u32.wrap (((q.set t.toNat (bxr .u32 (turnS (q.getD ((t - 2).toNat) 0) ([17, 19])) (shrV .u32 (q.getD ((t - 2).toNat) 0) 10))).getD t.toNat 0) + ((q.set t.toNat (bxr .u32 (turnS (q.getD ((t - 2).toNat) 0) ([17, 19])) (shrV .u32 (q.getD ((t - 2).toNat) 0) 10))).getD ((t - 7).toNat) 0)))])) (cs' := (iv .u32 ((q.set t.toNat (bxr .u32 (turnS (q.getD ((t - 2).toNat) 0) ([17, 19])) (shrV .u32 (q.getD ((t - 2).toNat) 0) 10))).set t.toNat (IntKind.u32.wrap (((q.set t.toNat (bxr .u32 (turnS (q.getD ((t - 2).toNat) 0) ([17, 19])) (shrV .u32 (q.getD ((t - 2).toNat) 0) 10))).getD t.toNat 0) + ((q.set t.toNat (bxr .u32 (turnS (q.getD ((t - 2).toNat) 0) ([17, 19])) (shrV .u32 (q.getD ((t - 2).toNat) 0) 10))).getD ((t - 7).toNat) 0)))))) H 1 87 (.int .u32 (IntKind.u32.wrap (((q.set t.toNat (bxr .u32 (turnS (q.getD ((t - 2).toNat) 0) ([17, 19])) (shrV .u32 (q.getD ((t - 2).toNat) 0) 10))).getD t.toNat 0) + ((q.set t.toNat (bxr .u32 (turnS (q.getD ((t - 2).toNat) 0) ([17, 19])) (shrV .u32 (q.getD ((t - 2).toNat) 0) 10))).getD ((t - 7).toNat) 0)))) 1 (by kernel_rfl) rfl rfl (by rfl) (by first | (simp only [iv_length, List.length_set, List.length_replicate, *]; done) | (simp [iv_length, *]; done) | (simp [Value.cells, iv_length, *]; done) | omega | (simp [Value.cells, iv_length] <;> omega)) (by simp [Value.oneCell']) (by exact iv_set _ _ _ _ (by first | (simp only [iv_length, List.length_set, List.length_replicate, *]; done) | (simp [iv_length, *]; done) | (simp [Value.cells, iv_length, *]; done) | omega | (simp [Value.cells, iv_length] <;> omega))) (fun w17 H => ?_)
      dsimp only [List.set] at H
      refine wc_nil rfl ?_
      refine n_np ?_
      refine n_sq ?_
      refine wn_seq (by kernel_rfl) ?_
      refine wn_regD [] (ol [0, 1, 2, 3, 6, 7, 4, 5, 8, 9, 10, 11]) (by kernel_rfl) H (fun w18 H => ?_)
      refine wc_run (T' := [(2, .pointer (some ⟨b1, 0, none⟩)), (3, .pointer (some ⟨b3, 0, none⟩)), (5, .int .i64 t), (7, .int .u32 (q.getD ((t - 15).toNat) 0)), (55, .int .i64 t)]) (L2 := (ol [1, 2, 3, 6, 7, 4, 5, 8, 9, 10, 11])) 1 [2, 3, 5, 7, 55] (by kernel_rfl) ?_
      refine wc_ix (b := b3) (off := 0) (o' := t.toNat) (some 56) (some ⟨b3, 0, none⟩) 64 1 t (by kernel_rfl) rfl (by omega) (by omega) (by omega) ?_
      refine wc_ld (b := b3) (off := t.toNat) (some 57) 87 (.int .u32 (((q.set t.toNat (bxr .u32 (turnS (q.getD ((t - 2).toNat) 0) ([17, 19])) (shrV .u32 (q.getD ((t - 2).toNat) 0) 10))).set t.toNat (IntKind.u32.wrap (((q.set t.toNat (bxr .u32 (turnS (q.getD ((t - 2).toNat) 0) ([17, 19])) (shrV .u32 (q.getD ((t - 2).toNat) 0) 10))).getD t.toNat 0) + ((q.set t.toNat (bxr .u32 (turnS (q.getD ((t - 2).toNat) 0) ([17, 19])) (shrV .u32 (q.getD ((t - 2).toNat) 0) 10))).getD ((t - 7).toNat) 0)))).getD t.toNat 0)) (by kernel_rfl) (Ld.ent1 H 1 rfl (by kernel_rfl) (iv_get (by first | (simp only [iv_length, List.length_set, List.length_replicate, *]; done) | (simp [iv_length, *]; done) | (simp [Value.cells, iv_length, *]; done) | omega | (simp [Value.cells, iv_length] <;> omega)))) ?_
      refine wc_run (T' := [(2, .pointer (some ⟨b1, 0, none⟩)), (3, .pointer (some ⟨b3, 0, none⟩)), (5, .int .i64 t), (55, .int .i64 t), (57, .int .u32 (((q.set t.toNat (bxr .u32 (turnS (q.getD ((t - 2).toNat) 0) ([17, 19])) (shrV .u32 (q.getD ((t - 2).toNat) 0) 10))).set t.toNat (IntKind.u32.wrap (((q.set t.toNat (bxr .u32 (turnS (q.getD ((t - 2).toNat) 0) ([17, 19])) (shrV .u32 (q.getD ((t - 2).toNat) 0) 10))).getD t.toNat 0) + ((q.set t.toNat (bxr .u32 (turnS (q.getD ((t - 2).toNat) 0) ([17, 19])) (shrV .u32 (q.getD ((t - 2).toNat) 0) 10))).getD ((t - 7).toNat) 0)))).getD t.toNat 0)), (58, .int .u32 (q.getD ((t - 15).toNat) 0)), (62, .int .u32 (shrV .u32 (q.getD ((t - 15).toNat) 0) 3))]) (L2 := (ol [4, 5, 8, 9, 10, 11])) 3 [2, 3, 5, 55, 57, 58, 62] (by kernel_rfl) ?_
      refine wc_new H (some 59) (row ([.int .i64 7, .int .i64 18]) 3) (fun r => .slice (some ⟨r, 0, none⟩) 2 2) (by kernel_rfl) (fun b19 w20 H => ?_)
      refine wc_call (some 60) (by kernel_rfl) (sha_turned w20 (q.getD ((t - 15).toNat) 0) ([7, 18]) (some ⟨b19, 0, none⟩) 2 (Rd.of_ent H (k := 0) (off := 0) (n := 2) rfl (by rfl)) (get_of_mem (p := fun x => 0 ≤ x ∧ x < 32) (by omega) (by decide)) (by decide)) ?_
      rintro _ w21 ⟨rfl, H1⟩
      refine ⟨_, rfl, fun _ => H1.keep, ?_⟩
      replace H := H.call H1
      simp only [List.nil_append] at H
      refine wc_run (T' := [(2, .pointer (some ⟨b1, 0, none⟩)), (3, .pointer (some ⟨b3, 0, none⟩)), (5, .int .i64 t), (55, .int .i64 t), (64, .int .u32 (IntKind.u32.wrap ((((q.set t.toNat (bxr .u32 (turnS (q.getD ((t - 2).toNat) 0) ([17, 19])) (shrV .u32 (q.getD ((t - 2).toNat) 0) 10))).set t.toNat (IntKind.u32.wrap (((q.set t.toNat (bxr .u32 (turnS (q.getD ((t - 2).toNat) 0) ([17, 19])) (shrV .u32 (q.getD ((t - 2).toNat) 0) 10))).getD t.toNat 0) + ((q.set t.toNat (bxr .u32 (turnS (q.getD ((t - 2).toNat) 0) ([17, 19])) (shrV .u32 (q.getD ((t - 2).toNat) 0) 10))).getD ((t - 7).toNat) 0)))).getD t.toNat 0) + (bxr .u32 (turnS (q.getD ((t - 15).toNat) 0) ([7, 18])) (shrV .u32 (q.getD ((t - 15).toNat) 0) 3)))))]) (L2 := (ol [10, 11])) 2 [2, 3, 5, 55, 64] (by kernel_rfl) ?_
      refine wc_ix (b := b3) (off := 0) (o' := t.toNat) (some 65) (some ⟨b3, 0, none⟩) 64 1 t (by kernel_rfl) rfl (by omega) (by omega) (by omega) ?_
      refine wc_st (b := b3) (off := t.toNat) (Tb := 88) (vs := ([.int .u32 (IntKind.u32.wrap ((((q.set t.toNat (bxr .u32 (turnS (q.getD ((t - 2).toNat) 0) ([17, 19])) (shrV .u32 (q.getD ((t - 2).toNat) 0) 10))).set t.toNat (IntKind.u32.wrap (((q.set t.toNat (bxr .u32 (turnS (q.getD ((t - 2).toNat) 0) ([17, 19])) (shrV .u32 (q.getD ((t - 2).toNat) 0) 10))).getD t.toNat 0) + ((q.set t.toNat (bxr .u32 (turnS (q.getD ((t - 2).toNat) 0) ([17, 19])) (shrV .u32 (q.getD ((t - 2).toNat) 0) 10))).getD ((t - 7).toNat) 0)))).getD t.toNat 0) + (bxr .u32 (turnS (q.getD ((t - 15).toNat) 0) ([7, 18])) (shrV .u32 (q.getD ((t - 15).toNat) 0) 3))))])) (cs' := (iv .u32 (((q.set t.toNat (bxr .u32 (turnS (q.getD ((t - 2).toNat) 0) ([17, 19])) (shrV .u32 (q.getD ((t - 2).toNat) 0) 10))).set t.toNat (IntKind.u32.wrap (((q.set t.toNat (bxr .u32 (turnS (q.getD ((t - 2).toNat) 0) ([17, 19])) (shrV .u32 (q.getD ((t - 2).toNat) 0) 10))).getD t.toNat 0) + ((q.set t.toNat (bxr .u32 (turnS (q.getD ((t - 2).toNat) 0) ([17, 19])) (shrV .u32 (q.getD ((t - 2).toNat) 0) 10))).getD ((t - 7).toNat) 0)))).set t.toNat (IntKind.u32.wrap ((((q.set t.toNat (bxr .u32 (turnS (q.getD ((t - 2).toNat) 0) ([17, 19])) (shrV .u32 (q.getD ((t - 2).toNat) 0) 10))).set t.toNat (IntKind.u32.wrap (((q.set t.toNat (bxr .u32 (turnS (q.getD ((t - 2).toNat) 0) ([17, 19])) (shrV .u32 (q.getD ((t - 2).toNat) 0) 10))).getD t.toNat 0) + ((q.set t.toNat (bxr .u32 (turnS (q.getD ((t - 2).toNat) 0) ([17, 19])) (shrV .u32 (q.getD ((t - 2).toNat) 0) 10))).getD ((t - 7).toNat) 0)))).getD t.toNat 0) + (bxr .u32 (turnS (q.getD ((t - 15).toNat) 0) ([7, 18])) (shrV .u32 (q.getD ((t - 15).toNat) 0) 3))))))) H 2 87 (.int .u32 (IntKind.u32.wrap ((((q.set t.toNat (bxr .u32 (turnS (q.getD ((t - 2).toNat) 0) ([17, 19])) (shrV .u32 (q.getD ((t - 2).toNat) 0) 10))).set t.toNat (IntKind.u32.wrap (((q.set t.toNat (bxr .u32 (turnS (q.getD ((t - 2).toNat) 0) ([17, 19])) (shrV .u32 (q.getD ((t - 2).toNat) 0) 10))).getD t.toNat 0) + ((q.set t.toNat (bxr .u32 (turnS (q.getD ((t - 2).toNat) 0) ([17, 19])) (shrV .u32 (q.getD ((t - 2).toNat) 0) 10))).getD ((t - 7).toNat) 0)))).getD t.toNat 0) + (bxr .u32 (turnS (q.getD ((t - 15).toNat) 0) ([7, 18])) (shrV .u32 (q.getD ((t - 15).toNat) 0) 3))))) 1 (by kernel_rfl) rfl rfl (by rfl) (by first | (simp only [iv_length, List.length_set, List.length_replicate, *]; done) | (simp [iv_length, *]; done) | (simp [Value.cells, iv_length, *]; done) | omega | (simp [Value.cells, iv_length] <;> omega)) (by simp [Value.oneCell']) (by exact iv_set _ _ _ _ (by first | (simp only [iv_length, List.length_set, List.length_replicate, *]; done) | (simp [iv_length, *]; done) | (simp [Value.cells, iv_length, *]; done) | omega | (simp [Value.cells, iv_length] <;> omega))) (fun w22 H => ?_)
      dsimp only [List.set] at H
      refine wc_nil rfl ?_
      refine n_np ?_
      refine n_sq ?_
      refine wn_regD [] (ol [0, 1, 2, 3, 4, 5, 6, 7, 8, 9]) (by kernel_rfl) H (fun w23 H => ?_)
      refine wc_run (T' := [(2, .pointer (some ⟨b1, 0, none⟩)), (3, .pointer (some ⟨b3, 0, none⟩)), (5, .int .i64 t), (66, .int .i64 t)]) (L2 := (ol [1, 2, 3, 4, 5, 6, 7, 8, 9])) 1 [2, 3, 5, 66] (by kernel_rfl) ?_
      refine wc_ix (b := b3) (off := 0) (o' := t.toNat) (some 67) (some ⟨b3, 0, none⟩) 64 1 t (by kernel_rfl) rfl (by omega) (by omega) (by omega) ?_
      refine wc_ld (b := b3) (off := t.toNat) (some 68) 87 (.int .u32 ((((q.set t.toNat (bxr .u32 (turnS (q.getD ((t - 2).toNat) 0) ([17, 19])) (shrV .u32 (q.getD ((t - 2).toNat) 0) 10))).set t.toNat (IntKind.u32.wrap (((q.set t.toNat (bxr .u32 (turnS (q.getD ((t - 2).toNat) 0) ([17, 19])) (shrV .u32 (q.getD ((t - 2).toNat) 0) 10))).getD t.toNat 0) + ((q.set t.toNat (bxr .u32 (turnS (q.getD ((t - 2).toNat) 0) ([17, 19])) (shrV .u32 (q.getD ((t - 2).toNat) 0) 10))).getD ((t - 7).toNat) 0)))).set t.toNat (IntKind.u32.wrap ((((q.set t.toNat (bxr .u32 (turnS (q.getD ((t - 2).toNat) 0) ([17, 19])) (shrV .u32 (q.getD ((t - 2).toNat) 0) 10))).set t.toNat (IntKind.u32.wrap (((q.set t.toNat (bxr .u32 (turnS (q.getD ((t - 2).toNat) 0) ([17, 19])) (shrV .u32 (q.getD ((t - 2).toNat) 0) 10))).getD t.toNat 0) + ((q.set t.toNat (bxr .u32 (turnS (q.getD ((t - 2).toNat) 0) ([17, 19])) (shrV .u32 (q.getD ((t - 2).toNat) 0) 10))).getD ((t - 7).toNat) 0)))).getD t.toNat 0) + (bxr .u32 (turnS (q.getD ((t - 15).toNat) 0) ([7, 18])) (shrV .u32 (q.getD ((t - 15).toNat) 0) 3))))).getD t.toNat 0)) (by kernel_rfl) (Ld.ent1 H 2 rfl (by kernel_rfl) (iv_get (by first | (simp only [iv_length, List.length_set, List.length_replicate, *]; done) | (simp [iv_length, *]; done) | (simp [Value.cells, iv_length, *]; done) | omega | (simp [Value.cells, iv_length] <;> omega)))) ?_
      refine wc_run (T' := [(2, .pointer (some ⟨b1, 0, none⟩)), (3, .pointer (some ⟨b3, 0, none⟩)), (5, .int .i64 t), (66, .int .i64 t), (68, .int .u32 ((((q.set t.toNat (bxr .u32 (turnS (q.getD ((t - 2).toNat) 0) ([17, 19])) (shrV .u32 (q.getD ((t - 2).toNat) 0) 10))).set t.toNat (IntKind.u32.wrap (((q.set t.toNat (bxr .u32 (turnS (q.getD ((t - 2).toNat) 0) ([17, 19])) (shrV .u32 (q.getD ((t - 2).toNat) 0) 10))).getD t.toNat 0) + ((q.set t.toNat (bxr .u32 (turnS (q.getD ((t - 2).toNat) 0) ([17, 19])) (shrV .u32 (q.getD ((t - 2).toNat) 0) 10))).getD ((t - 7).toNat) 0)))).set t.toNat (IntKind.u32.wrap ((((q.set t.toNat (bxr .u32 (turnS (q.getD ((t - 2).toNat) 0) ([17, 19])) (shrV .u32 (q.getD ((t - 2).toNat) 0) 10))).set t.toNat (IntKind.u32.wrap (((q.set t.toNat (bxr .u32 (turnS (q.getD ((t - 2).toNat) 0) ([17, 19])) (shrV .u32 (q.getD ((t - 2).toNat) 0) 10))).getD t.toNat 0) + ((q.set t.toNat (bxr .u32 (turnS (q.getD ((t - 2).toNat) 0) ([17, 19])) (shrV .u32 (q.getD ((t - 2).toNat) 0) 10))).getD ((t - 7).toNat) 0)))).getD t.toNat 0) + (bxr .u32 (turnS (q.getD ((t - 15).toNat) 0) ([7, 18])) (shrV .u32 (q.getD ((t - 15).toNat) 0) 3))))).getD t.toNat 0)), (70, .int .i64 (IntKind.i64.wrap (t - 16)))]) (L2 := (ol [5, 6, 7, 8, 9])) 2 [2, 3, 5, 66, 68, 70] (by kernel_rfl) ?_
      rw [wi64 (x := t - 16) (by first | omega | (simp only [List.length_append, List.length_cons, List.length_nil, List.length_set, List.length_replicate, List.length_drop, List.length_take, iv_length, Nat.zero_add] at * <;> omega)) (by first | omega | (simp only [List.length_append, List.length_cons, List.length_nil, List.length_set, List.length_replicate, List.length_drop, List.length_take, iv_length, Nat.zero_add] at * <;> omega))]
      refine wc_ix (b := b3) (off := 0) (o' := (t - 16).toNat) (some 71) (some ⟨b3, 0, none⟩) 64 1 (t - 16) (by kernel_rfl) rfl (by omega) (by omega) (by omega) ?_
      refine wc_ld (b := b3) (off := (t - 16).toNat) (some 72) 87 (.int .u32 ((((q.set t.toNat (bxr .u32 (turnS (q.getD ((t - 2).toNat) 0) ([17, 19])) (shrV .u32 (q.getD ((t - 2).toNat) 0) 10))).set t.toNat (IntKind.u32.wrap (((q.set t.toNat (bxr .u32 (turnS (q.getD ((t - 2).toNat) 0) ([17, 19])) (shrV .u32 (q.getD ((t - 2).toNat) 0) 10))).getD t.toNat 0) + ((q.set t.toNat (bxr .u32 (turnS (q.getD ((t - 2).toNat) 0) ([17, 19])) (shrV .u32 (q.getD ((t - 2).toNat) 0) 10))).getD ((t - 7).toNat) 0)))).set t.toNat (IntKind.u32.wrap ((((q.set t.toNat (bxr .u32 (turnS (q.getD ((t - 2).toNat) 0) ([17, 19])) (shrV .u32 (q.getD ((t - 2).toNat) 0) 10))).set t.toNat (IntKind.u32.wrap (((q.set t.toNat (bxr .u32 (turnS (q.getD ((t - 2).toNat) 0) ([17, 19])) (shrV .u32 (q.getD ((t - 2).toNat) 0) 10))).getD t.toNat 0) + ((q.set t.toNat (bxr .u32 (turnS (q.getD ((t - 2).toNat) 0) ([17, 19])) (shrV .u32 (q.getD ((t - 2).toNat) 0) 10))).getD ((t - 7).toNat) 0)))).getD t.toNat 0) + (bxr .u32 (turnS (q.getD ((t - 15).toNat) 0) ([7, 18])) (shrV .u32 (q.getD ((t - 15).toNat) 0) 3))))).getD ((t - 16).toNat) 0)) (by kernel_rfl) (Ld.ent1 H 2 rfl (by kernel_rfl) (iv_get (by first | (simp only [iv_length, List.length_set, List.length_replicate, *]; done) | (simp [iv_length, *]; done) | (simp [Value.cells, iv_length, *]; done) | omega | (simp [Value.cells, iv_length] <;> omega)))) ?_
      refine wc_run (T' := [(2, .pointer (some ⟨b1, 0, none⟩)), (3, .pointer (some ⟨b3, 0, none⟩)), (5, .int .i64 t), (66, .int .i64 t), (73, .int .u32 (IntKind.u32.wrap (((((q.set t.toNat (bxr .u32 (turnS (q.getD ((t - 2).toNat) 0) ([17, 19])) (shrV .u32 (q.getD ((t - 2).toNat) 0) 10))).set t.toNat (IntKind.u32.wrap (((q.set t.toNat (bxr .u32 (turnS (q.getD ((t - 2).toNat) 0) ([17, 19])) (shrV .u32 (q.getD ((t - 2).toNat) 0) 10))).getD t.toNat 0) + ((q.set t.toNat (bxr .u32 (turnS (q.getD ((t - 2).toNat) 0) ([17, 19])) (shrV .u32 (q.getD ((t - 2).toNat) 0) 10))).getD ((t - 7).toNat) 0)))).set t.toNat (IntKind.u32.wrap ((((q.set t.toNat (bxr .u32 (turnS (q.getD ((t - 2).toNat) 0) ([17, 19])) (shrV .u32 (q.getD ((t - 2).toNat) 0) 10))).set t.toNat (IntKind.u32.wrap (((q.set t.toNat (bxr .u32 (turnS (q.getD ((t - 2).toNat) 0) ([17, 19])) (shrV .u32 (q.getD ((t - 2).toNat) 0) 10))).getD t.toNat 0) + ((q.set t.toNat (bxr .u32 (turnS (q.getD ((t - 2).toNat) 0) ([17, 19])) (shrV .u32 (q.getD ((t - 2).toNat) 0) 10))).getD ((t - 7).toNat) 0)))).getD t.toNat 0) + (bxr .u32 (turnS (q.getD ((t - 15).toNat) 0) ([7, 18])) (shrV .u32 (q.getD ((t - 15).toNat) 0) 3))))).getD t.toNat 0) + ((((q.set t.toNat (bxr .u32 (turnS (q.getD ((t - 2).toNat) 0) ([17, 19])) (shrV .u32 (q.getD ((t - 2).toNat) 0) 10))).set t.toNat (IntKind.u32.wrap (((q.set t.toNat (bxr .u32 (turnS (q.getD ((t - 2).toNat) 0) ([17, 19])) (shrV .u32 (q.getD ((t - 2).toNat) 0) 10))).getD t.toNat 0) + ((q.set t.toNat (bxr .u32 (turnS (q.getD ((t - 2).toNat) 0) ([17, 19])) (shrV .u32 (q.getD ((t - 2).toNat) 0) 10))).getD ((t - 7).toNat) 0)))).set t.toNat (IntKind.u32.wrap ((((q.set t.toNat (bxr .u32 (turnS (q.getD ((t - 2).toNat) 0) ([17, 19])) (shrV .u32 (q.getD ((t - 2).toNat) 0) 10))).set t.toNat (IntKind.u32.wrap (((q.set t.toNat (bxr .u32 (turnS (q.getD ((t - 2).toNat) 0) ([17, 19])) (shrV .u32 (q.getD ((t - 2).toNat) 0) 10))).getD t.toNat 0) + ((q.set t.toNat (bxr .u32 (turnS (q.getD ((t - 2).toNat) 0) ([17, 19])) (shrV .u32 (q.getD ((t - 2).toNat) 0) 10))).getD ((t - 7).toNat) 0)))).getD t.toNat 0) + (bxr .u32 (turnS (q.getD ((t - 15).toNat) 0) ([7, 18])) (shrV .u32 (q.getD ((t - 15).toNat) 0) 3))))).getD ((t - 16).toNat) 0))))]) (L2 := (ol [8, 9])) 1 [2, 3, 5, 66, 73] (by kernel_rfl) ?_
      refine wc_ix (b := b3) (off := 0) (o' := t.toNat) (some 74) (some ⟨b3, 0, none⟩) 64 1 t (by kernel_rfl) rfl (by omega) (by omega) (by omega) ?_
      refine wc_st (b := b3) (off := t.toNat) (Tb := 88) (vs := ([.int .u32 (IntKind.u32.wrap (((((q.set t.toNat (bxr .u32 (turnS (q.getD ((t - 2).toNat) 0) ([17, 19])) (shrV .u32 (q.getD ((t - 2).toNat) 0) 10))).set t.toNat (IntKind.u32.wrap (((q.set t.toNat (bxr .u32 (turnS (q.getD ((t - 2).toNat) 0) ([17, 19])) (shrV .u32 (q.getD ((t - 2).toNat) 0) 10))).getD t.toNat 0) + ((q.set t.toNat (bxr .u32 (turnS (q.getD ((t - 2).toNat) 0) ([17, 19])) (shrV .u32 (q.getD ((t - 2).toNat) 0) 10))).getD ((t - 7).toNat) 0)))).set t.toNat (IntKind.u32.wrap ((((q.set t.toNat (bxr .u32 (turnS (q.getD ((t - 2).toNat) 0) ([17, 19])) (shrV .u32 (q.getD ((t - 2).toNat) 0) 10))).set t.toNat (IntKind.u32.wrap (((q.set t.toNat (bxr .u32 (turnS (q.getD ((t - 2).toNat) 0) ([17, 19])) (shrV .u32 (q.getD ((t - 2).toNat) 0) 10))).getD t.toNat 0) + ((q.set t.toNat (bxr .u32 (turnS (q.getD ((t - 2).toNat) 0) ([17, 19])) (shrV .u32 (q.getD ((t - 2).toNat) 0) 10))).getD ((t - 7).toNat) 0)))).getD t.toNat 0) + (bxr .u32 (turnS (q.getD ((t - 15).toNat) 0) ([7, 18])) (shrV .u32 (q.getD ((t - 15).toNat) 0) 3))))).getD t.toNat 0) + ((((q.set t.toNat (bxr .u32 (turnS (q.getD ((t - 2).toNat) 0) ([17, 19])) (shrV .u32 (q.getD ((t - 2).toNat) 0) 10))).set t.toNat (IntKind.u32.wrap (((q.set t.toNat (bxr .u32 (turnS (q.getD ((t - 2).toNat) 0) ([17, 19])) (shrV .u32 (q.getD ((t - 2).toNat) 0) 10))).getD t.toNat 0) + ((q.set t.toNat (bxr .u32 (turnS (q.getD ((t - 2).toNat) 0) ([17, 19])) (shrV .u32 (q.getD ((t - 2).toNat) 0) 10))).getD ((t - 7).toNat) 0)))).set t.toNat (IntKind.u32.wrap ((((q.set t.toNat (bxr .u32 (turnS (q.getD ((t - 2).toNat) 0) ([17, 19])) (shrV .u32 (q.getD ((t - 2).toNat) 0) 10))).set t.toNat (IntKind.u32.wrap (((q.set t.toNat (bxr .u32 (turnS (q.getD ((t - 2).toNat) 0) ([17, 19])) (shrV .u32 (q.getD ((t - 2).toNat) 0) 10))).getD t.toNat 0) + ((q.set t.toNat (bxr .u32 (turnS (q.getD ((t - 2).toNat) 0) ([17, 19])) (shrV .u32 (q.getD ((t - 2).toNat) 0) 10))).getD ((t - 7).toNat) 0)))).getD t.toNat 0) + (bxr .u32 (turnS (q.getD ((t - 15).toNat) 0) ([7, 18])) (shrV .u32 (q.getD ((t - 15).toNat) 0) 3))))).getD ((t - 16).toNat) 0)))])) (cs' := (iv .u32 ((((q.set t.toNat (bxr .u32 (turnS (q.getD ((t - 2).toNat) 0) ([17, 19])) (shrV .u32 (q.getD ((t - 2).toNat) 0) 10))).set t.toNat (IntKind.u32.wrap (((q.set t.toNat (bxr .u32 (turnS (q.getD ((t - 2).toNat) 0) ([17, 19])) (shrV .u32 (q.getD ((t - 2).toNat) 0) 10))).getD t.toNat 0) + ((q.set t.toNat (bxr .u32 (turnS (q.getD ((t - 2).toNat) 0) ([17, 19])) (shrV .u32 (q.getD ((t - 2).toNat) 0) 10))).getD ((t - 7).toNat) 0)))).set t.toNat (IntKind.u32.wrap ((((q.set t.toNat (bxr .u32 (turnS (q.getD ((t - 2).toNat) 0) ([17, 19])) (shrV .u32 (q.getD ((t - 2).toNat) 0) 10))).set t.toNat (IntKind.u32.wrap (((q.set t.toNat (bxr .u32 (turnS (q.getD ((t - 2).toNat) 0) ([17, 19])) (shrV .u32 (q.getD ((t - 2).toNat) 0) 10))).getD t.toNat 0) + ((q.set t.toNat (bxr .u32 (turnS (q.getD ((t - 2).toNat) 0) ([17, 19])) (shrV .u32 (q.getD ((t - 2).toNat) 0) 10))).getD ((t - 7).toNat) 0)))).getD t.toNat 0) + (bxr .u32 (turnS (q.getD ((t - 15).toNat) 0) ([7, 18])) (shrV .u32 (q.getD ((t - 15).toNat) 0) 3))))).set t.toNat (IntKind.u32.wrap (((((q.set t.toNat (bxr .u32 (turnS (q.getD ((t - 2).toNat) 0) ([17, 19])) (shrV .u32 (q.getD ((t - 2).toNat) 0) 10))).set t.toNat (IntKind.u32.wrap (((q.set t.toNat (bxr .u32 (turnS (q.getD ((t - 2).toNat) 0) ([17, 19])) (shrV .u32 (q.getD ((t - 2).toNat) 0) 10))).getD t.toNat 0) + ((q.set t.toNat (bxr .u32 (turnS (q.getD ((t - 2).toNat) 0) ([17, 19])) (shrV .u32 (q.getD ((t - 2).toNat) 0) 10))).getD ((t - 7).toNat) 0)))).set t.toNat (IntKind.u32.wrap ((((q.set t.toNat (bxr .u32 (turnS (q.getD ((t - 2).toNat) 0) ([17, 19])) (shrV .u32 (q.getD ((t - 2).toNat) 0) 10))).set t.toNat (IntKind.u32.wrap (((q.set t.toNat (bxr .u32 (turnS (q.getD ((t - 2).toNat) 0) ([17, 19])) (shrV .u32 (q.getD ((t - 2).toNat) 0) 10))).getD t.toNat 0) + ((q.set t.toNat (bxr .u32 (turnS (q.getD ((t - 2).toNat) 0) ([17, 19])) (shrV .u32 (q.getD ((t - 2).toNat) 0) 10))).getD ((t - 7).toNat) 0)))).getD t.toNat 0) + (bxr .u32 (turnS (q.getD ((t - 15).toNat) 0) ([7, 18])) (shrV .u32 (q.getD ((t - 15).toNat) 0) 3))))).getD t.toNat 0) + ((((q.set t.toNat (bxr .u32 (turnS (q.getD ((t - 2).toNat) 0) ([17, 19])) (shrV .u32 (q.getD ((t - 2).toNat) 0) 10))).set t.toNat (IntKind.u32.wrap (((q.set t.toNat (bxr .u32 (turnS (q.getD ((t - 2).toNat) 0) ([17, 19])) (shrV .u32 (q.getD ((t - 2).toNat) 0) 10))).getD t.toNat 0) + ((q.set t.toNat (bxr .u32 (turnS (q.getD ((t - 2).toNat) 0) ([17, 19])) (shrV .u32 (q.getD ((t - 2).toNat) 0) 10))).getD ((t - 7).toNat) 0)))).set t.toNat (IntKind.u32.wrap ((((q.set t.toNat (bxr .u32 (turnS (q.getD ((t - 2).toNat) 0) ([17, 19])) (shrV .u32 (q.getD ((t - 2).toNat) 0) 10))).set t.toNat (IntKind.u32.wrap (((q.set t.toNat (bxr .u32 (turnS (q.getD ((t - 2).toNat) 0) ([17, 19])) (shrV .u32 (q.getD ((t - 2).toNat) 0) 10))).getD t.toNat 0) + ((q.set t.toNat (bxr .u32 (turnS (q.getD ((t - 2).toNat) 0) ([17, 19])) (shrV .u32 (q.getD ((t - 2).toNat) 0) 10))).getD ((t - 7).toNat) 0)))).getD t.toNat 0) + (bxr .u32 (turnS (q.getD ((t - 15).toNat) 0) ([7, 18])) (shrV .u32 (q.getD ((t - 15).toNat) 0) 3))))).getD ((t - 16).toNat) 0)))))) H 2 87 (.int .u32 (IntKind.u32.wrap (((((q.set t.toNat (bxr .u32 (turnS (q.getD ((t - 2).toNat) 0) ([17, 19])) (shrV .u32 (q.getD ((t - 2).toNat) 0) 10))).set t.toNat (IntKind.u32.wrap (((q.set t.toNat (bxr .u32 (turnS (q.getD ((t - 2).toNat) 0) ([17, 19])) (shrV .u32 (q.getD ((t - 2).toNat) 0) 10))).getD t.toNat 0) + ((q.set t.toNat (bxr .u32 (turnS (q.getD ((t - 2).toNat) 0) ([17, 19])) (shrV .u32 (q.getD ((t - 2).toNat) 0) 10))).getD ((t - 7).toNat) 0)))).set t.toNat (IntKind.u32.wrap ((((q.set t.toNat (bxr .u32 (turnS (q.getD ((t - 2).toNat) 0) ([17, 19])) (shrV .u32 (q.getD ((t - 2).toNat) 0) 10))).set t.toNat (IntKind.u32.wrap (((q.set t.toNat (bxr .u32 (turnS (q.getD ((t - 2).toNat) 0) ([17, 19])) (shrV .u32 (q.getD ((t - 2).toNat) 0) 10))).getD t.toNat 0) + ((q.set t.toNat (bxr .u32 (turnS (q.getD ((t - 2).toNat) 0) ([17, 19])) (shrV .u32 (q.getD ((t - 2).toNat) 0) 10))).getD ((t - 7).toNat) 0)))).getD t.toNat 0) + (bxr .u32 (turnS (q.getD ((t - 15).toNat) 0) ([7, 18])) (shrV .u32 (q.getD ((t - 15).toNat) 0) 3))))).getD t.toNat 0) + ((((q.set t.toNat (bxr .u32 (turnS (q.getD ((t - 2).toNat) 0) ([17, 19])) (shrV .u32 (q.getD ((t - 2).toNat) 0) 10))).set t.toNat (IntKind.u32.wrap (((q.set t.toNat (bxr .u32 (turnS (q.getD ((t - 2).toNat) 0) ([17, 19])) (shrV .u32 (q.getD ((t - 2).toNat) 0) 10))).getD t.toNat 0) + ((q.set t.toNat (bxr .u32 (turnS (q.getD ((t - 2).toNat) 0) ([17, 19])) (shrV .u32 (q.getD ((t - 2).toNat) 0) 10))).getD ((t - 7).toNat) 0)))).set t.toNat (IntKind.u32.wrap ((((q.set t.toNat (bxr .u32 (turnS (q.getD ((t - 2).toNat) 0) ([17, 19])) (shrV .u32 (q.getD ((t - 2).toNat) 0) 10))).set t.toNat (IntKind.u32.wrap (((q.set t.toNat (bxr .u32 (turnS (q.getD ((t - 2).toNat) 0) ([17, 19])) (shrV .u32 (q.getD ((t - 2).toNat) 0) 10))).getD t.toNat 0) + ((q.set t.toNat (bxr .u32 (turnS (q.getD ((t - 2).toNat) 0) ([17, 19])) (shrV .u32 (q.getD ((t - 2).toNat) 0) 10))).getD ((t - 7).toNat) 0)))).getD t.toNat 0) + (bxr .u32 (turnS (q.getD ((t - 15).toNat) 0) ([7, 18])) (shrV .u32 (q.getD ((t - 15).toNat) 0) 3))))).getD ((t - 16).toNat) 0)))) 1 (by kernel_rfl) rfl rfl (by rfl) (by first | (simp only [iv_length, List.length_set, List.length_replicate, *]; done) | (simp [iv_length, *]; done) | (simp [Value.cells, iv_length, *]; done) | omega | (simp [Value.cells, iv_length] <;> omega)) (by simp [Value.oneCell']) (by exact iv_set _ _ _ _ (by first | (simp only [iv_length, List.length_set, List.length_replicate, *]; done) | (simp [iv_length, *]; done) | (simp [Value.cells, iv_length, *]; done) | omega | (simp [Value.cells, iv_length] <;> omega))) (fun w24 H => ?_)
      dsimp only [List.set] at H
      refine wc_nil rfl ?_
      refine n_np ?_
      refine n_blk ?_
      refine n_sq ?_
      refine wn_reg 3 (by kernel_rfl) ?_
      refine wc_run (T' := [(2, .pointer (some ⟨b1, 0, none⟩)), (3, .pointer (some ⟨b3, 0, none⟩)), (29, .int .i64 (IntKind.i64.wrap (t + 1)))]) (L2 := (rng 2 1)) 2 [2, 3, 29] (by kernel_rfl) ?_
      rw [wi64 (x := t + 1) (by first | omega | (simp only [List.length_append, List.length_cons, List.length_nil, List.length_set, List.length_replicate, List.length_drop, List.length_take, iv_length, Nat.zero_add] at * <;> omega)) (by first | omega | (simp only [List.length_append, List.length_cons, List.length_nil, List.length_set, List.length_replicate, List.length_drop, List.length_take, iv_length, Nat.zero_add] at * <;> omega))]
      refine wc_run (T' := [(2, .pointer (some ⟨b1, 0, none⟩)), (3, .pointer (some ⟨b3, 0, none⟩)), (5, .int .i64 (t + 1))]) (L2 := (rng 3 0)) 1 [2, 3, 5] (by kernel_rfl) ?_
      refine wc_nil rfl ?_
      refine round_end (t + 1, (((q.set t.toNat (bxr .u32 (turnS (q.getD ((t - 2).toNat) 0) ([17, 19])) (shrV .u32 (q.getD ((t - 2).toNat) 0) 10))).set t.toNat (IntKind.u32.wrap (((q.set t.toNat (bxr .u32 (turnS (q.getD ((t - 2).toNat) 0) ([17, 19])) (shrV .u32 (q.getD ((t - 2).toNat) 0) 10))).getD t.toNat 0) + ((q.set t.toNat (bxr .u32 (turnS (q.getD ((t - 2).toNat) 0) ([17, 19])) (shrV .u32 (q.getD ((t - 2).toNat) 0) 10))).getD ((t - 7).toNat) 0)))).set t.toNat (IntKind.u32.wrap ((((q.set t.toNat (bxr .u32 (turnS (q.getD ((t - 2).toNat) 0) ([17, 19])) (shrV .u32 (q.getD ((t - 2).toNat) 0) 10))).set t.toNat (IntKind.u32.wrap (((q.set t.toNat (bxr .u32 (turnS (q.getD ((t - 2).toNat) 0) ([17, 19])) (shrV .u32 (q.getD ((t - 2).toNat) 0) 10))).getD t.toNat 0) + ((q.set t.toNat (bxr .u32 (turnS (q.getD ((t - 2).toNat) 0) ([17, 19])) (shrV .u32 (q.getD ((t - 2).toNat) 0) 10))).getD ((t - 7).toNat) 0)))).getD t.toNat 0) + (bxr .u32 (turnS (q.getD ((t - 15).toNat) 0) ([7, 18])) (shrV .u32 (q.getD ((t - 15).toNat) 0) 3))))).set t.toNat (IntKind.u32.wrap (((((q.set t.toNat (bxr .u32 (turnS (q.getD ((t - 2).toNat) 0) ([17, 19])) (shrV .u32 (q.getD ((t - 2).toNat) 0) 10))).set t.toNat (IntKind.u32.wrap (((q.set t.toNat (bxr .u32 (turnS (q.getD ((t - 2).toNat) 0) ([17, 19])) (shrV .u32 (q.getD ((t - 2).toNat) 0) 10))).getD t.toNat 0) + ((q.set t.toNat (bxr .u32 (turnS (q.getD ((t - 2).toNat) 0) ([17, 19])) (shrV .u32 (q.getD ((t - 2).toNat) 0) 10))).getD ((t - 7).toNat) 0)))).set t.toNat (IntKind.u32.wrap ((((q.set t.toNat (bxr .u32 (turnS (q.getD ((t - 2).toNat) 0) ([17, 19])) (shrV .u32 (q.getD ((t - 2).toNat) 0) 10))).set t.toNat (IntKind.u32.wrap (((q.set t.toNat (bxr .u32 (turnS (q.getD ((t - 2).toNat) 0) ([17, 19])) (shrV .u32 (q.getD ((t - 2).toNat) 0) 10))).getD t.toNat 0) + ((q.set t.toNat (bxr .u32 (turnS (q.getD ((t - 2).toNat) 0) ([17, 19])) (shrV .u32 (q.getD ((t - 2).toNat) 0) 10))).getD ((t - 7).toNat) 0)))).getD t.toNat 0) + (bxr .u32 (turnS (q.getD ((t - 15).toNat) 0) ([7, 18])) (shrV .u32 (q.getD ((t - 15).toNat) 0) 3))))).getD t.toNat 0) + ((((q.set t.toNat (bxr .u32 (turnS (q.getD ((t - 2).toNat) 0) ([17, 19])) (shrV .u32 (q.getD ((t - 2).toNat) 0) 10))).set t.toNat (IntKind.u32.wrap (((q.set t.toNat (bxr .u32 (turnS (q.getD ((t - 2).toNat) 0) ([17, 19])) (shrV .u32 (q.getD ((t - 2).toNat) 0) 10))).getD t.toNat 0) + ((q.set t.toNat (bxr .u32 (turnS (q.getD ((t - 2).toNat) 0) ([17, 19])) (shrV .u32 (q.getD ((t - 2).toNat) 0) 10))).getD ((t - 7).toNat) 0)))).set t.toNat (IntKind.u32.wrap ((((q.set t.toNat (bxr .u32 (turnS (q.getD ((t - 2).toNat) 0) ([17, 19])) (shrV .u32 (q.getD ((t - 2).toNat) 0) 10))).set t.toNat (IntKind.u32.wrap (((q.set t.toNat (bxr .u32 (turnS (q.getD ((t - 2).toNat) 0) ([17, 19])) (shrV .u32 (q.getD ((t - 2).toNat) 0) 10))).getD t.toNat 0) + ((q.set t.toNat (bxr .u32 (turnS (q.getD ((t - 2).toNat) 0) ([17, 19])) (shrV .u32 (q.getD ((t - 2).toNat) 0) 10))).getD ((t - 7).toNat) 0)))).getD t.toNat 0) + (bxr .u32 (turnS (q.getD ((t - 15).toNat) 0) ([7, 18])) (shrV .u32 (q.getD ((t - 15).toNat) 0) 3))))).getD ((t - 16).toNat) 0)))) [2, 3, 5] (by kernel_rfl) ⟨H.sel [2, 3] (by decide) rfl, ?_⟩ ?_
      · obtain ⟨h1, h2, h3, h4⟩ := hi
        rw [sp_four h3 h1 (by omega)]
        have e1 : (t + 1).toNat - 16 = (t.toNat - 16) + 1 := by omega
        have e2 : t.toNat - 16 + 16 = t.toNat := by omega
        have e3 : (t - 2).toNat = t.toNat - 2 := by omega
        have e4 : (t - 15).toNat = t.toNat - 15 := by omega
        refine ⟨by omega, by omega, by simp [h3], ?_⟩
        rw [e1, itN, spS, spV, e2, e3, e4, ← h4]
      · first | omega | (dsimp only; omega)
    · have hc10 := of_decide_eq_false hc10
      refine wn_exit 2 (by kernel_rfl) ?_
      refine e_sq ?_
      refine e_then ?_
      refine e_blk ?_
      refine n_sq ?_
      refine wn_seq (by kernel_rfl) ?_
      refine wn_reg 2 (by kernel_rfl) ?_
      refine wc_ld (b := b3) (off := 0) (some 75) 88 (.agg (iv .u32 q).toArray) (by kernel_rfl) (Ld.entW H 0 (n := 64) rfl (by kernel_rfl) (by first | (simp only [iv_length, List.length_set, List.length_replicate, *]; done) | (simp [iv_length, *]; done) | (simp [Value.cells, iv_length, *]; done) | omega | (simp [Value.cells, iv_length] <;> omega))) ?_
      refine wc_st (b := b1) (off := 0) (Tb := 88) (vs := (iv .u32 q)) (cs' := (iv .u32 q)) H 1 88 (.agg (iv .u32 q).toArray) 64 (by kernel_rfl) rfl rfl (by first | (simp only [iv_length, List.length_set, List.length_replicate, *]; done) | (simp [iv_length, *]; done) | (simp [Value.cells, iv_length, *]; done) | omega | (simp [Value.cells, iv_length] <;> omega)) (by have h := (iv_length .u32 (List.replicate 64 0)).trans List.length_replicate; omega) (by exact iv_flat _ _) (by first | rfl | exact blit_all _ _ (by first | (simp only [iv_length, List.length_set, List.length_replicate, *]; done) | (simp [iv_length, *]; done) | (simp [Value.cells, iv_length, *]; done) | omega | (simp [Value.cells, iv_length] <;> omega)) | (simp [blit, List.drop_append, List.take_append, iv_length, *]; done)) (fun w25 H => ?_)
      dsimp only [List.set] at H
      refine wc_nil rfl ?_
      refine n_sq ?_
      refine wn_ret (by kernel_rfl) ?_
      refine ret1 _ (Or.inr rfl) Try.results62 ⟨_, _, rfl, Ld.entW H 1 (n := 64) rfl (by kernel_rfl) (by first | (simp only [iv_length, List.length_set, List.length_replicate, *]; done) | (simp [iv_length, *]; done) | (simp [Value.cells, iv_length, *]; done) | omega | (simp [Value.cells, iv_length] <;> omega))⟩ ?_
      have he26 : (spF b) = q := by
        obtain ⟨h1, h2, h3, h4⟩ := hi
        have e : t.toNat - 16 = 48 := by omega
        rw [h4, e, spF]
      exact ⟨by first | (rw [he26]; done) | (rw [he26]; rfl), H.nil, by exact spF_length b⟩
end Go.Proofs.Ytfeecdcanjkohaa
