/-
  Walks of some of this seat's functions: each call's answer, and what it leaves of memory. No condition beside those that stand in each theorem.
-/
import Derived.Test.YtfeecdcanjkohaaRows
import Derived.Test.YtfeecdcanjkohaaSa7
set_option linter.all false
namespace Go.Proofs.Ytfeecdcanjkohaa
open Go.RowKit Go.Px

noncomputable def cd_sha_Leaf : Code := (Try.f34.body).getD .skip
theorem sha_Leaf (w : World) (b : List Int) (B : Option Addr) (d : Nat) (hb : Rd w B (iv .u8 b)) (hn : b.length ≤ 140737488354000) :
    Calls Try.prog 34 #[.slice B b.length d] w (fun e w' => e = .returned (.agg (iv .u8 (shaF ([(0 : Int)] ++ b))).toArray) ∧ Hp no w w' [] ∧ (shaF ([(0 : Int)] ++ b)).length = 32) := by
  refine enter (args := [_]) (c := cd_sha_Leaf) (N := 8) Try.func34 (by kernel_rfl) (by kernel_rfl) (by simp) ?_
  have H := Hp.start w
  refine wn_seq (by kernel_rfl) ?_
  refine wn_reg 1 (by kernel_rfl) ?_
  refine wc_new H (some 2) (row (iv .u8 (List.replicate 32 0)) 47) (fun r => .pointer (some ⟨r, 0, none⟩)) (by kernel_rfl) (fun b1 w2 H => ?_)
  refine wc_nil rfl ?_
  refine n_sq ?_
  refine wn_seq (by kernel_rfl) ?_
  refine wn_reg 6 (by kernel_rfl) ?_
  refine wc_new H (some 3) (row ([.int .u8 0]) 5) (fun r => .slice (some ⟨r, 0, none⟩) 1 1) (by kernel_rfl) (fun b3 w4 H => ?_)
  refine wc_run (T' := [(2, .pointer (some ⟨b1, 0, none⟩)), (3, .slice (some ⟨b3, 0, none⟩) 1 1), (4, .slice B b.length d)]) (L2 := (rng 2 4)) 1 [2, 3, 4] (by kernel_rfl) ?_
  refine wc_new H (some 5) (row ([.slice (some ⟨b3, 0, none⟩) 1 1, .slice B b.length d]) 50) (fun r => .slice (some ⟨r, 0, none⟩) 2 2) (by kernel_rfl) (fun b5 w6 H => ?_)
  refine wc_call (some 6) (by kernel_rfl) (concat_bytes w6 ([((some ⟨b3, 0, none⟩), 1, [(0 : Int)]), (B, d, b)]) (some ⟨b5, 0, none⟩) 2 (Rd.of_ent H (k := 0) (off := 0) (n := 2) rfl (by first | rfl | simp [slC])) (rdL_cons (Rd.of_ent H (k := 1) (off := 0) (n := 1) rfl (by rfl)) (rdL_cons (hb.keep H.keep) (rdL_nil _))) (by simp [catL]; omega) (by simp)) ?_
  rintro _ w9 ⟨A7, c8, rfl, H1⟩
  refine ⟨_, rfl, fun _ => H1.keep, ?_⟩
  replace H := H.call H1
  simp only [List.nil_append, List.cons_append] at H
  have hturn : (catL ([((some ⟨b3, 0, none⟩), 1, [(0 : Int)]), (B, d, b)])) = ([(0 : Int)] ++ b) := by simp [catL]
  rw [hturn] at H ⊢
  refine wc_call (some 7) (by kernel_rfl) (sha_Sum w9 ([(0 : Int)] ++ b) A7 c8 (Rd.sl H 0 rfl) (by simp only [List.length_append, List.length_cons, List.length_nil]; omega)) ?_
  rintro _ w10 ⟨rfl, H1, hf11⟩
  refine ⟨_, rfl, fun _ => H1.keep, ?_⟩
  replace H := H.call H1
  simp only [List.nil_append] at H
  refine wc_st (b := b1) (off := 0) (Tb := 47) (vs := (iv .u8 (shaF ([(0 : Int)] ++ b)))) (cs' := (iv .u8 (shaF ([(0 : Int)] ++ b)))) H 3 47 (.agg (iv .u8 (shaF ([(0 : Int)] ++ b))).toArray) 32 (by kernel_rfl) rfl rfl (by exact (iv_length .u8 (shaF ([(0 : Int)] ++ b))).trans hf11) (by have h := (iv_length .u8 (List.replicate 32 0)).trans List.length_replicate; omega) (by exact iv_flat _ _) (by exact blit_all _ _ ((show (iv .u8 (shaF ([(0 : Int)] ++ b)) : List Value).length = 32 from (iv_length .u8 (shaF ([(0 : Int)] ++ b))).trans hf11).trans (show (iv .u8 (List.replicate 32 0) : List Value).length = 32 from (iv_length .u8 (List.replicate 32 0)).trans List.length_replicate).symm)) (fun w12 H => ?_)
  dsimp only [List.set] at H
  refine wc_nil rfl ?_
  refine n_sq ?_
  refine wn_ret (by kernel_rfl) ?_
  refine ret1 _ (Or.inr rfl) Try.results34 ⟨_, _, rfl, Ld.entW H 3 (n := 32) rfl (by kernel_rfl) (by exact (iv_length .u8 (shaF ([(0 : Int)] ++ b))).trans hf11)⟩ ?_
  exact ⟨rfl, H.nil, by exact shaF_length _⟩

noncomputable def cd_sha_Pair : Code := (Try.f36.body).getD .skip
theorem sha_Pair (w : World) (x : List Int) (y : List Int) (hx : x.length = 32) (hy : y.length = 32) :
    Calls Try.prog 36 #[.agg (iv .u8 x).toArray, .agg (iv .u8 y).toArray] w (fun e w' => e = .returned (.agg (iv .u8 (shaF (([(1 : Int)] ++ x) ++ y))).toArray) ∧ Hp no w w' [] ∧ (shaF (([(1 : Int)] ++ x) ++ y)).length = 32) := by
  refine enter (args := [_, _]) (c := cd_sha_Pair) (N := 11) Try.func36 (by kernel_rfl) (by kernel_rfl) (by simp) ?_
  have H := Hp.start w
  refine wn_seq (by kernel_rfl) ?_
  refine wn_reg 3 (by kernel_rfl) ?_
  refine wc_new H (some 2) (row (iv .u8 x) 47) (fun r => .pointer (some ⟨r, 0, none⟩)) (by kernel_rfl) (fun b1 w2 H => ?_)
  refine wc_new H (some 3) (row (iv .u8 y) 47) (fun r => .pointer (some ⟨r, 0, none⟩)) (by kernel_rfl) (fun b3 w4 H => ?_)
  refine wc_new H (some 4) (row (iv .u8 (List.replicate 32 0)) 47) (fun r => .pointer (some ⟨r, 0, none⟩)) (by kernel_rfl) (fun b5 w6 H => ?_)
  refine wc_nil rfl ?_
  refine n_sq ?_
  refine wn_seq (by kernel_rfl) ?_
  refine wn_regD [] (ol [1, 2, 0, 3, 4, 5, 6]) (by kernel_rfl) H (fun w7 H => ?_)
  refine wc_sl (some 6) (some ⟨b1, 0, none⟩) 32 32 1 none none none (some ⟨b1, 0, none⟩) 32 32 (by kernel_rfl) (by kernel_rfl) (by simp) (by decide) (by decide) (by decide) (by decide) (by decide) (by decide) (by exact slA_zero _ _ _) ?_
  refine wc_sl (some 7) (some ⟨b3, 0, none⟩) 32 32 1 none none none (some ⟨b3, 0, none⟩) 32 32 (by kernel_rfl) (by kernel_rfl) (by simp) (by decide) (by decide) (by decide) (by decide) (by decide) (by decide) (by exact slA_zero _ _ _) ?_
  refine wc_new H (some 5) (row ([.int .u8 1]) 5) (fun r => .slice (some ⟨r, 0, none⟩) 1 1) (by kernel_rfl) (fun b8 w9 H => ?_)
  refine wc_new H (some 8) (row ([.slice (some ⟨b8, 0, none⟩) 1 1, .slice (some ⟨b1, 0, none⟩) 32 32, .slice (some ⟨b3, 0, none⟩) 32 32]) 50) (fun r => .slice (some ⟨r, 0, none⟩) 3 3) (by kernel_rfl) (fun b10 w11 H => ?_)
  refine wc_call (some 9) (by kernel_rfl) (concat_bytes w11 ([((some ⟨b8, 0, none⟩), 1, [(1 : Int)]), ((some ⟨b1, 0, none⟩), 32, x), ((some ⟨b3, 0, none⟩), 32, y)]) (some ⟨b10, 0, none⟩) 3 (Rd.of_ent H (k := 0) (off := 0) (n := 3) rfl (by first | rfl | simp [slC, hx, hy])) (rdL_cons (Rd.of_ent H (k := 1) (off := 0) (n := 1) rfl (by rfl)) (rdL_cons (Rd.of_ent H (k := 4) (off := 0) (n := 32) rfl (by exact List.take_of_length_le (Nat.le_of_eq (by exact (iv_length .u8 x).trans hx)))) (rdL_cons (Rd.of_ent H (k := 3) (off := 0) (n := 32) rfl (by exact List.take_of_length_le (Nat.le_of_eq (by exact (iv_length .u8 y).trans hy)))) (rdL_nil _)))) (by simp [catL]; omega) (by simp)) ?_
  rintro _ w14 ⟨A12, c13, rfl, H1⟩
  refine ⟨_, rfl, fun _ => H1.keep, ?_⟩
  replace H := H.call H1
  simp only [List.nil_append, List.cons_append] at H
  have hturn : (catL ([((some ⟨b8, 0, none⟩), 1, [(1 : Int)]), ((some ⟨b1, 0, none⟩), 32, x), ((some ⟨b3, 0, none⟩), 32, y)])) = (([(1 : Int)] ++ x) ++ y) := by simp [catL]
  rw [hturn] at H ⊢
  refine wc_call (some 10) (by kernel_rfl) (sha_Sum w14 (([(1 : Int)] ++ x) ++ y) A12 c13 (Rd.sl H 0 rfl) (by simp only [List.length_append, List.length_cons, List.length_nil]; omega)) ?_
  rintro _ w15 ⟨rfl, H1, hf16⟩
  refine ⟨_, rfl, fun _ => H1.keep, ?_⟩
  replace H := H.call H1
  simp only [List.nil_append] at H
  refine wc_st (b := b5) (off := 0) (Tb := 47) (vs := (iv .u8 (shaF (([(1 : Int)] ++ x) ++ y)))) (cs' := (iv .u8 (shaF (([(1 : Int)] ++ x) ++ y)))) H 3 47 (.agg (iv .u8 (shaF (([(1 : Int)] ++ x) ++ y))).toArray) 32 (by kernel_rfl) rfl rfl (by exact (iv_length .u8 (shaF (([(1 : Int)] ++ x) ++ y))).trans hf16) (by have h := (iv_length .u8 (List.replicate 32 0)).trans List.length_replicate; omega) (by exact iv_flat _ _) (by exact blit_all _ _ ((show (iv .u8 (shaF (([(1 : Int)] ++ x) ++ y)) : List Value).length = 32 from (iv_length .u8 (shaF (([(1 : Int)] ++ x) ++ y))).trans hf16).trans (show (iv .u8 (List.replicate 32 0) : List Value).length = 32 from (iv_length .u8 (List.replicate 32 0)).trans List.length_replicate).symm)) (fun w17 H => ?_)
  dsimp only [List.set] at H
  refine wc_nil rfl ?_
  refine n_np ?_
  refine n_sq ?_
  refine wn_ret (by kernel_rfl) ?_
  refine ret1 _ (Or.inr rfl) Try.results36 ⟨_, _, rfl, Ld.entW H 3 (n := 32) rfl (by kernel_rfl) (by exact (iv_length .u8 (shaF (([(1 : Int)] ++ x) ++ y))).trans hf16)⟩ ?_
  exact ⟨rfl, H.nil, by exact shaF_length _⟩

noncomputable def cd_proctorlaw01_ShaSums : Code := (Try.f8.body).getD .skip
theorem proctorlaw01_ShaSums (w : World) (b : List Int) (B : Option Addr) (d : Nat) (x : List Int) (y : List Int) (hb : Rd w B (iv .u8 b)) (hn : b.length ≤ 140737488354000) (hr : ∀ j, 0 ≤ b.getD j 0 ∧ b.getD j 0 < 256) (hx : x.length = 32) (hy : y.length = 32) (hxb : ∀ j, 0 ≤ x.getD j 0 ∧ x.getD j 0 < 256) (hyb : ∀ j, 0 ≤ y.getD j 0 ∧ y.getD j 0 < 256) :
    Calls Try.prog 8 #[.slice B b.length d, .agg (iv .u8 x).toArray, .agg (iv .u8 y).toArray] w (fun e w' => e = .returned (.bool true) ∧ Hp no w w' []) := by
  refine enter (args := [_, _, _]) (c := cd_proctorlaw01_ShaSums) (N := 35) Try.func8 (by kernel_rfl) (by kernel_rfl) (by simp) ?_
  have H := Hp.start w
  refine wn_seq (by kernel_rfl) ?_
  refine wn_reg 3 (by kernel_rfl) ?_
  refine wc_new H (some 4) (row (iv .u8 x) 47) (fun r => .pointer (some ⟨r, 0, none⟩)) (by kernel_rfl) (fun b1 w2 H => ?_)
  refine wc_new H (some 5) (row (iv .u8 y) 47) (fun r => .pointer (some ⟨r, 0, none⟩)) (by kernel_rfl) (fun b3 w4 H => ?_)
  refine wc_run (T' := [(0, .slice B b.length d), (4, .pointer (some ⟨b1, 0, none⟩)), (5, .pointer (some ⟨b3, 0, none⟩))]) (L2 := (rng 3 0)) 1 [0, 4, 5] (by kernel_rfl) ?_
  refine wc_nil rfl ?_
  refine n_sq ?_
  refine wn_seq (by kernel_rfl) ?_
  refine wn_regD [] (ol [0, 2, 1, 3, 4, 5, 6, 8, 7, 9, 10, 11, 12, 13, 14, 16, 17, 15, 18, 19, 20, 21, 22, 24, 23, 25, 26, 27, 28]) (by kernel_rfl) H (fun w5 H => ?_)
  refine wc_run (T' := [(0, .slice B b.length d), (4, .pointer (some ⟨b1, 0, none⟩)), (5, .pointer (some ⟨b3, 0, none⟩)), (7, .slice B b.length d), (9, .slice B b.length d)]) (L2 := (ol [1, 3, 4, 5, 6, 8, 7, 9, 10, 11, 12, 13, 14, 16, 17, 15, 18, 19, 20, 21, 22, 24, 23, 25, 26, 27, 28])) 2 [0, 4, 5, 7, 9] (by kernel_rfl) ?_
  refine wc_call (some 8) (by kernel_rfl) (sha_Sum w5 b B d (hb.keep H.keep) (by first | with_reducible assumption | omega | (simp_all; done))) ?_
  rintro _ w6 ⟨rfl, H1, hf7⟩
  refine ⟨_, rfl, fun _ => H1.keep, ?_⟩
  replace H := H.call H1
  simp only [List.nil_append] at H
  refine wc_call (some 10) (by kernel_rfl) (proctorref01_Sum w6 b B d (hb.keep H.keep) (by first | with_reducible assumption | omega | (simp_all; done)) hr) ?_
  rintro _ w8 ⟨rfl, H1, hf9⟩
  refine ⟨_, rfl, fun _ => H1.keep, ?_⟩
  replace H := H.call H1
  simp only [List.nil_append] at H
  refine wc_eqA (c := true) 2 (some 11) 47 true (iv .u8 (shaF b)) (iv .u8 (shaF b)) (by kernel_rfl) (by have h := EqV.arrC (P := Try.prog) (t := 47) (k := .u8) (n := 32) (by kernel_rfl) (shaF b) (shaF b) (by exact hf9) (by exact hf9); rw [decide_eq_true rfl] at h; exact h) ?_
  simp only [if_true, Bool.false_eq_true, if_false, Bool.not_true]
  refine wc_run (T' := [(0, .slice B b.length d), (4, .pointer (some ⟨b1, 0, none⟩)), (5, .pointer (some ⟨b3, 0, none⟩)), (12, .bool true), (13, .slice B b.length d), (15, .slice B b.length d)]) (L2 := (ol [7, 9, 10, 11, 12, 13, 14, 16, 17, 15, 18, 19, 20, 21, 22, 24, 23, 25, 26, 27, 28])) 3 [0, 4, 5, 12, 13, 15] (by kernel_rfl) ?_
  refine wc_call (some 14) (by kernel_rfl) (sha_Leaf w8 b B d (hb.keep H.keep) hn) ?_
  rintro _ w10 ⟨rfl, H1, hf11⟩
  refine ⟨_, rfl, fun _ => H1.keep, ?_⟩
  replace H := H.call H1
  simp only [List.nil_append] at H
  refine wc_call (some 16) (by kernel_rfl) (proctorref01_Leaf w10 b B d (hb.keep H.keep) hn hr) ?_
  rintro _ w12 ⟨rfl, H1, hf13⟩
  refine ⟨_, rfl, fun _ => H1.keep, ?_⟩
  replace H := H.call H1
  simp only [List.nil_append] at H
  refine wc_eqA (c := true) 2 (some 17) 47 true (iv .u8 (shaF ([(0 : Int)] ++ b))) (iv .u8 (shaF ([(0 : Int)] ++ b))) (by kernel_rfl) (by have h := EqV.arrC (P := Try.prog) (t := 47) (k := .u8) (n := 32) (by kernel_rfl) (shaF ([(0 : Int)] ++ b)) (shaF ([(0 : Int)] ++ b)) (by exact hf13) (by exact hf13); rw [decide_eq_true rfl] at h; exact h) ?_
  simp only [if_true, Bool.false_eq_true, if_false, Bool.not_true]
  refine wc_run (T' := [(0, .slice B b.length d), (4, .pointer (some ⟨b1, 0, none⟩)), (5, .pointer (some ⟨b3, 0, none⟩)), (19, .bool true)]) (L2 := (ol [13, 14, 16, 17, 15, 18, 19, 20, 21, 22, 24, 23, 25, 26, 27, 28])) 2 [0, 4, 5, 19] (by kernel_rfl) ?_
  refine wc_ld (b := b1) (off := 0) (some 20) 47 (.agg (iv .u8 x).toArray) (by kernel_rfl) (Ld.entW H 1 (n := 32) rfl (by kernel_rfl) (by exact (iv_length .u8 x).trans hx)) ?_
  refine wc_ld (b := b3) (off := 0) (some 21) 47 (.agg (iv .u8 y).toArray) (by kernel_rfl) (Ld.entW H 0 (n := 32) rfl (by kernel_rfl) (by exact (iv_length .u8 y).trans hy)) ?_
  refine wc_ld (b := b1) (off := 0) (some 23) 47 (.agg (iv .u8 x).toArray) (by kernel_rfl) (Ld.entW H 1 (n := 32) rfl (by kernel_rfl) (by exact (iv_length .u8 x).trans hx)) ?_
  refine wc_ld (b := b3) (off := 0) (some 24) 47 (.agg (iv .u8 y).toArray) (by kernel_rfl) (Ld.entW H 0 (n := 32) rfl (by kernel_rfl) (by exact (iv_length .u8 y).trans hy)) ?_
  refine wc_call (some 22) (by kernel_rfl) (sha_Pair w12 x y hx hy) ?_
  rintro _ w14 ⟨rfl, H1, hf15⟩
  refine ⟨_, rfl, fun _ => H1.keep, ?_⟩
  replace H := H.call H1
  simp only [List.nil_append] at H
  refine wc_call (some 25) (by kernel_rfl) (proctorref01_Pair w14 x y hx hy hxb hyb) ?_
  rintro _ w16 ⟨rfl, H1, hf17⟩
  refine ⟨_, rfl, fun _ => H1.keep, ?_⟩
  replace H := H.call H1
  simp only [List.nil_append] at H
  refine wc_eqA (c := true) 2 (some 26) 47 true (iv .u8 (shaF (([(1 : Int)] ++ x) ++ y))) (iv .u8 (shaF (([(1 : Int)] ++ x) ++ y))) (by kernel_rfl) (by have h := EqV.arrC (P := Try.prog) (t := 47) (k := .u8) (n := 32) (by kernel_rfl) (shaF (([(1 : Int)] ++ x) ++ y)) (shaF (([(1 : Int)] ++ x) ++ y)) (by exact hf17) (by exact hf17); rw [decide_eq_true rfl] at h; exact h) ?_
  simp only [if_true, Bool.false_eq_true, if_false, Bool.not_true]
  refine wc_run (T' := [(28, .bool true), (29, .slice B b.length d), (31, .slice B b.length d)]) (L2 := (ol [23, 25, 26, 27, 28])) 4 [28, 29, 31] (by kernel_rfl) ?_
  refine wc_call (some 30) (by kernel_rfl) (sha_Rounds w16 b B d (by first | with_reducible assumption | omega | (simp_all; done))) ?_
  rintro _ w18 ⟨rfl, H1⟩
  refine ⟨_, rfl, fun _ => H1.keep, ?_⟩
  replace H := H.call H1
  simp only [List.nil_append] at H
  refine wc_call (some 32) (by kernel_rfl) (proctorref01_Rounds w18 b B d (hb.keep H.keep) (by first | with_reducible assumption | omega | (simp_all; done))) ?_
  rintro _ w19 ⟨rfl, H1⟩
  refine ⟨_, rfl, fun _ => H1.keep, ?_⟩
  replace H := H.call H1
  simp only [List.nil_append] at H
  refine wc_run (T' := [(6, .bool ((((padF b).length / 64 : Nat) : Int) == (((padF b).length / 64 : Nat) : Int)))]) (L2 := (ol [])) 3 [6] (by kernel_rfl) ?_
  refine wc_nil rfl ?_
  refine n_np ?_
  refine n_sq ?_
  refine wn_ret (by kernel_rfl) ?_
  refine ret1 _ (Or.inr rfl) Try.results8 rfl ?_
  have he20 : true = ((((padF b).length / 64 : Nat) : Int) == (((padF b).length / 64 : Nat) : Int)) := by
    simp_all
  exact ⟨by first | (rw [he20]; done) | (rw [he20]; rfl), H.nil⟩
end Go.Proofs.Ytfeecdcanjkohaa
