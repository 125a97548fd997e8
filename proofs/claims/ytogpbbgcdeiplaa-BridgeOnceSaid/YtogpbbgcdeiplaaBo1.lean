/-
  Walks by computing. No condition.
-/
import Derived.Test.YtogpbbgcdeiplaaSt3
import Derived.Test.YtogpbbgcdeiplaaSt5
import Derived.Test.YtogpbbgcdeiplaaBr2
set_option linter.all false
set_option maxRecDepth 100000
set_option maxHeartbeats 1000000
namespace Go.Pw
open Go Go.Px Go.RowKit
attribute [local irreducible] shaF


def padL (e : Nat) (ls : List (List Int)) : List (List Int) := ls ++ List.replicate (2 ^ e - ls.length) (List.replicate 32 0)
theorem padL_length {e : Nat} {ls : List (List Int)} (h : ls.length ≤ 2 ^ e) : (padL e ls).length = 2 ^ e := by
  rw [padL, List.length_append, List.length_replicate]; omega
theorem xor_m2 (o : Nat) : (o ^^^ 1) % 2 = (o + 1) % 2 := by
  have h := Nat.testBit_xor o 1 0
  simp only [Nat.testBit_zero] at h
  rcases Nat.mod_two_eq_zero_or_one o with h1 | h1 <;> rcases Nat.mod_two_eq_zero_or_one (o ^^^ 1) with h2 | h2 <;> simp [h1, h2] at h <;> omega
theorem xor_even {o : Nat} (h : o % 2 = 0) : o ^^^ 1 = o + 1 := by
  have h1 : (o ^^^ 1) / 2 = o / 2 := by rw [Nat.xor_div_two]; simp
  have h2 : (o ^^^ 1) % 2 = (o + 1) % 2 := xor_m2 o
  omega
theorem xor_odd {o : Nat} (h : ¬ o % 2 = 0) : o ^^^ 1 = o - 1 := by
  have h1 : (o ^^^ 1) / 2 = o / 2 := by rw [Nat.xor_div_two]; simp
  have h2 : (o ^^^ 1) % 2 = (o + 1) % 2 := xor_m2 o
  omega
theorem pad_blk {e k m : Nat} {ls : List (List Int)} (h : ls.length ≤ 2 ^ e) (hm : m + 2 ^ k ≤ 2 ^ e) : ((padL e ls).drop m).take (2 ^ k) = padL k ((ls.drop m).take (2 ^ k)) := by
  rw [padL, padL, List.drop_append, List.take_append, List.drop_replicate, List.take_replicate, List.length_take, List.length_drop]
  congr 2
  omega
theorem rtR_succ {e : Nat} {ls : List (List Int)} : rtR (e + 1) ls = pr2 (rtR e (ls.take (2 ^ e))) (rtR e (ls.drop (2 ^ e))) := by
  rw [rtR]
  by_cases h : ls.length = 0
  · have : ls = [] := List.eq_nil_of_length_eq_zero h
    subst this; simp
  · rw [if_neg h]
    by_cases h1 : ls.length ≤ 2 ^ e
    · rw [if_pos h1, List.take_of_length_le h1, List.drop_eq_nil_of_le h1]
    · rw [if_neg h1]
theorem rtR_pad : ∀ (e : Nat) (ls : List (List Int)), ls.length ≤ 2 ^ e → rtR e (padL e ls) = rtR e ls
  | 0, ls, h => by
    match ls, h with
    | [], _ => rfl
    | [x], _ => rfl
  | e + 1, ls, h => by
    have hp : 2 ^ (e + 1) = 2 ^ e * 2 := Nat.pow_succ 2 e
    have e1 := pad_blk (e := e + 1) (k := e) (m := 0) h (by omega)
    have e2 := pad_blk (e := e + 1) (k := e) (m := 2 ^ e) h (by omega)
    rw [List.drop_zero, List.drop_zero] at e1
    have h3 : ((padL (e + 1) ls).drop (2 ^ e)).length = 2 ^ e := by rw [List.length_drop, padL_length h]; omega
    have h4 : (ls.drop (2 ^ e)).length ≤ 2 ^ e := by rw [List.length_drop]; omega
    rw [List.take_of_length_le (by omega), List.take_of_length_le h4] at e2
    rw [rtR_succ, rtR_succ, e1, e2, rtR_pad e _ (by rw [List.length_take]; omega), rtR_pad e _ h4]
theorem prfN_pad {e j : Nat} {ls : List (List Int)} (h : ls.length ≤ 2 ^ e) (hj : j < 2 ^ e) : prfN (padL e ls) j e = prfN ls j e := by
  refine List.map_congr_left fun d hd => ?_
  have hd : d < e := by simpa using hd
  have ho : j / 2 ^ d ^^^ 1 < 2 ^ (e - d) := by
    refine Nat.xor_lt_two_pow ?_ (Nat.one_lt_two_pow (by omega))
    rw [Nat.div_lt_iff_lt_mul (Nat.pow_pos (by omega)), ← Nat.pow_add, show e - d + d = e by omega]; exact hj
  have hm : (j / 2 ^ d ^^^ 1) * 2 ^ d + 2 ^ d ≤ 2 ^ e := by
    have : ((j / 2 ^ d ^^^ 1) + 1) * 2 ^ d ≤ 2 ^ (e - d) * 2 ^ d := Nat.mul_le_mul_right _ (Nat.succ_le_of_lt ho)
    rw [← Nat.pow_add, show e - d + d = e by omega, Nat.add_mul] at this
    omega
  rw [sib_lvl, sib_lvl, pad_blk h hm, rtR_pad _ _ (by rw [List.length_take]; omega)]
theorem blk_other {F : List (List Int)} {j m q : Nat} {x : List Int} (h : j < m ∨ m + q ≤ j) : ((F.set j x).drop m).take q = (F.drop m).take q := by
  refine List.ext_getElem? fun i => ?_
  simp only [List.getElem?_take, List.getElem?_drop]
  split
  · rw [List.getElem?_set_ne (by omega)]
  · rfl
theorem fld_rt {e j : Nat} {F : List (List Int)} {x : List Int} (hF : F.length = 2 ^ e) (hj : j < 2 ^ e) : ∀ k, k ≤ e → fldN j (prfN F j e) x k = rtR k (((F.set j x).drop (j / 2 ^ k * 2 ^ k)).take (2 ^ k))
  | 0, _ => by
    rw [fldN, rtR, Nat.pow_zero, Nat.div_one, Nat.mul_one]
    simp [List.getD_eq_getElem?_getD, List.getElem?_take, List.getElem?_drop, List.getElem?_set, hF, hj]
  | k + 1, hk => by
    have ih := fld_rt (x := x) hF hj k (by omega)
    have hp : 2 ^ (k + 1) = 2 ^ k * 2 := Nat.pow_succ 2 k
    have hd : j / 2 ^ (k + 1) = j / 2 ^ k / 2 := by rw [hp, Nat.div_div_eq_div_mul]
    have hq : 0 < 2 ^ k := Nat.pow_pos (by omega)
    have hs : (prfN F j e).getD k (List.replicate 32 0) = rtR k ((F.drop ((j / 2 ^ k ^^^ 1) * 2 ^ k)).take (2 ^ k)) := by
      rw [← sib_lvl, List.getD_eq_getElem?_getD, prfN, List.getElem?_map, List.getElem?_range (by omega)]; rfl
    have hlo : j / 2 ^ k * 2 ^ k ≤ j := Nat.div_mul_le_self _ _
    have hhi : j < j / 2 ^ k * 2 ^ k + 2 ^ k := by have := Nat.lt_div_mul_add (a := j) hq; omega
    rw [fldN, hs, ih, rtR_succ, List.take_take, List.drop_take, List.drop_drop, hd]
    generalize j / 2 ^ k = o at hlo hhi ⊢
    generalize 2 ^ k = q at hp hq hlo hhi ⊢
    rw [hp, show min q (q * 2) = q by omega, show q * 2 - q = q by omega]
    by_cases h2 : o % 2 = 0
    · rw [if_pos h2, xor_even h2, show o / 2 * (q * 2) = o * q by rw [Nat.mul_comm q 2, ← Nat.mul_assoc, show o / 2 * 2 = o by omega], show (o + 1) * q = o * q + q by rw [Nat.add_mul, Nat.one_mul]]
      rw [blk_other (m := o * q + q) (q := q) (.inl hhi)]
    · have hob : o / 2 * (q * 2) = (o - 1) * q := by rw [Nat.mul_comm q 2, ← Nat.mul_assoc, show o / 2 * 2 = o - 1 by omega]
      have hoc : (o - 1) * q + q = o * q := by rw [show o * q = (o - 1 + 1) * q by rw [show o - 1 + 1 = o by omega], Nat.add_mul, Nat.one_mul]
      rw [if_neg h2, xor_odd h2, hob, hoc, blk_other (m := (o - 1) * q) (q := q) (.inr (by omega))]
theorem fld_all {e j : Nat} {F : List (List Int)} {x : List Int} (hF : F.length = 2 ^ e) (hj : j < 2 ^ e) : fldN j (prfN F j e) x e = rtR e (F.set j x) := by
  rw [fld_rt hF hj e (Nat.le_refl _), Nat.div_eq_of_lt hj, Nat.zero_mul, List.drop_zero, List.take_of_length_le (by rw [List.length_set]; omega)]

theorem set_same {α : Type} {l : List α} {i : Nat} {x : α} (h : l[i]? = some x) : l.set i x = l := by
  refine List.ext_getElem? fun k => ?_
  rw [List.getElem?_set]
  split
  · rename_i e; subst e
    rw [if_pos (List.getElem?_eq_some_iff.1 h).1, h]
  · rfl
theorem rg_prf {ls : List (List Int)} (hg : ∀ a ∈ ls, rg a) (i : Int) : ∀ a ∈ prfL 5 ls i, rg a := fun a ha => by
  unfold prfL at ha
  split at ha
  · obtain ⟨d, -, rfl⟩ := List.mem_map.1 ha
    rw [sib_lvl]
    exact rtR_rg _ fun b hb => hg b (List.mem_of_mem_drop (List.mem_of_mem_take hb))
  · simp at ha
theorem ck_prove {acc : List (Int × Int × List Int)} {ou : List (Int × Int)} {i : Int} (hs : st6 acc ou) (h0 : 0 ≤ i) (h1 : i < ou.length) : ckO (rt6 acc ou) i (ou.getD i.toNat (0, 0)).1 (ou.getD i.toNat (0, 0)).2 (prfL 5 (outL ou) i) (rootH 5 (accL acc)) (ou.length : Int) = true := by
  have hn := hs.2
  have hL : (outL ou).length ≤ 32 := by rw [outL_length]; exact hn
  have e1 : prfL 5 (outL ou) i = prfN (outL ou) i.toNat 5 := by rw [prfL, if_pos (ask5 h0 (by omega) hL)]; rfl
  have l1 : (prfL 5 (outL ou) i).length = 5 := by rw [e1, prfN_length]
  have hw : IntKind.u64.wrap i = i := by rw [wrap64, Int.emod_eq_of_lt h0 (by omega)]
  have hf : fldE i 5 = 0 := fldE5.2 ⟨h0, by omega⟩
  rw [← ck_yes (by exact l1) (by omega) (by omega) (by rw [l1]; exact hf)]
  rw [decide_eq_true_eq, rt6, if_pos hs]
  congr 1
  rw [fldH, if_pos (by rw [l1]; exact fldOk5.2 ⟨h0, by omega⟩), l1, e1, root5 hL]
  have hj : i.toNat < 2 ^ 5 := by omega
  have hx : (outL ou)[i.toNat]? = some (leafF (e16 (ou.getD i.toNat (0, 0)).1 (ou.getD i.toNat (0, 0)).2)) := by
    rw [outL, List.getElem?_map, List.getD_eq_getElem?_getD, List.getElem?_eq_getElem (by omega)]
    rfl
  rw [← prfN_pad hL hj, fld_all (padL_length hL) hj, ← rtR_pad 5 (outL ou) hL]
  congr 1
  have hp : (padL 5 (outL ou))[i.toNat]? = some (leafF (e16 (ou.getD i.toNat (0, 0)).1 (ou.getD i.toNat (0, 0)).2)) := by
    rw [padL, List.getElem?_append_left (by rw [outL_length]; omega), hx]
  exact set_same hp
theorem getD_rep (n j : Nat) : (List.replicate n false).getD j false = false := by
  rw [List.getD_eq_getElem?_getD, List.getElem?_replicate]
  split <;> rfl
theorem sumN_set {p : List Int} {j : Nat} {v : Int} (hj : j < p.length) : ∀ n, sumN (p.set j v) n = if j < n then sumN p n - p.getD j 0 + v else sumN p n
  | 0 => by simp [sumN]
  | n + 1 => by
    have ih := sumN_set (v := v) hj n
    have e : (p.set j v).getD n 0 = if j = n then v else p.getD n 0 := by
      simp only [List.getD_eq_getElem?_getD, List.getElem?_set]
      split
      · rename_i h; subst h; simp [hj]
      · rfl
    rw [sumN, ih, e, sumN]
    by_cases h1 : j < n
    · rw [if_pos h1, if_neg (show ¬ j = n by omega), if_pos (show j < n + 1 by omega)]; omega
    · rw [if_neg h1]
      by_cases h2 : j = n
      · subst h2; rw [if_pos rfl, if_pos (show j < j + 1 by omega)]; omega
      · rw [if_neg h2, if_neg (show ¬ j < n + 1 by omega)]
theorem purse0 {hv : Int} (h0 : 0 ≤ hv) (h1 : hv < 4294967296) : r64 ((List.replicate 16 (0 : Int)).set 14 hv) ∧ bmay ((List.replicate 16 (0 : Int)).set 14 hv) hv 0 = true ∧ ((List.replicate 16 (0 : Int)).set 14 hv).getD 14 0 = hv ∧ ((List.replicate 16 (0 : Int)).set 14 hv).length = 16 ∧ ∀ j, j < 14 → ((List.replicate 16 (0 : Int)).set 14 hv).getD j 0 = 0 := by
  have e : (List.replicate 16 (0 : Int)).set 14 hv = [0, 0, 0, 0, 0, 0, 0, 0, 0, 0, 0, 0, 0, 0, hv, 0] := rfl
  rw [e]
  have g : [0, 0, 0, 0, 0, 0, 0, 0, 0, 0, 0, 0, 0, 0, hv, 0].getD 14 0 = hv := rfl
  refine ⟨get_of_mem (p := fun x => 0 ≤ x ∧ x < 18446744073709551616) (by omega) (fun x hx => ?_), ?_, g, rfl, fun j hj => ?_⟩
  · simp only [List.mem_cons, List.not_mem_nil, or_false] at hx
    omega
  · have hs : sumN [0, 0, 0, 0, 0, 0, 0, 0, 0, 0, 0, 0, 0, 0, hv, 0] 16 = hv := by simp [sumN]
    have ht : totE [0, 0, 0, 0, 0, 0, 0, 0, 0, 0, 0, 0, 0, 0, hv, 0] = 0 := totE0.2 (by unfold totOk; rw [hs]; omega)
    unfold bmay
    rw [ht, g, wrap64, Int.emod_eq_of_lt (by omega) (by omega)]
    simp
    omega
  · match j, hj with
    | 0, _ | 1, _ | 2, _ | 3, _ | 4, _ | 5, _ | 6, _ | 7, _ | 8, _ | 9, _ | 10, _ | 11, _ | 12, _ | 13, _ => rfl
theorem payR_facts {P : List Int} {hv to am : Int} (hl : P.length = 16) (rP : r64 P) (mP : bmay P hv 0 = true) (gP : P.getD 14 0 = hv) (t0 : 0 ≤ to) (t1 : to < 14) (a0 : 0 ≤ am) (a1 : am ≤ hv) (zP : P.getD to.toNat 0 = 0) :
    payE P 14 to am = 0 ∧ (payP P 14 to am).getD to.toNat 0 = am ∧ (payP P 14 to am).getD 14 0 = hv - am ∧ r64 (payP P 14 to am) ∧ bmay (payP P 14 to am) hv am = true := by
  obtain ⟨m1, m2, m3, m4⟩ := bmay_tot mP
  have e : payE P 14 to am = 0 := by
    rw [payE, if_pos ⟨m1, by omega, by omega, t0, by omega⟩, if_pos (by rw [show (14 : Int).toNat = 14 from rfl, gP]; exact a1)]
  have e14 : (14 : Int).toNat = 14 := rfl
  have hne : ¬ (14 = to.toNat) := by omega
  have q1 : (payQ P 14 am).getD to.toNat 0 = 0 := by
    rw [payQ, e14, List.getD_eq_getElem?_getD, List.getElem?_set_ne hne, ← List.getD_eq_getElem?_getD, zP]
  have q2 : (payQ P 14 am).getD 14 0 = hv - am := by
    rw [payQ, e14, gP, List.getD_eq_getElem?_getD, List.getElem?_set_self (by omega)]; rfl
  have ql : (payQ P 14 am).length = 16 := by rw [payQ, List.length_set, hl]
  have eP : payP P 14 to am = (payQ P 14 am).set to.toNat am := by rw [payP, if_pos e, payR, q1, Int.zero_add]
  have g1 : (payP P 14 to am).getD to.toNat 0 = am := by
    rw [eP, List.getD_eq_getElem?_getD, List.getElem?_set_self (by omega)]; rfl
  have g2 : (payP P 14 to am).getD 14 0 = hv - am := by
    rw [eP, List.getD_eq_getElem?_getD, List.getElem?_set_ne (by omega), ← List.getD_eq_getElem?_getD, q2]
  have hv64 := (rP 14).2
  rw [gP] at hv64
  have gj : ∀ j, (payP P 14 to am).getD j 0 = if to.toNat = j then am else if 14 = j then hv - am else P.getD j 0 := fun j => by
    split
    · rename_i h; subst h; exact g1
    · rename_i h
      split
      · rename_i h2; subst h2; exact g2
      · rename_i h2
        rw [eP, List.getD_eq_getElem?_getD, List.getElem?_set_ne h, payQ, e14, List.getElem?_set_ne h2, ← List.getD_eq_getElem?_getD]
  have r' : r64 (payP P 14 to am) := fun j => by
    rw [gj j]
    have := rP j
    split
    · omega
    · split <;> omega
  have hs : sumN (payP P 14 to am) 16 = sumN P 16 := by
    rw [eP, sumN_set (by omega), if_pos (by omega), q1, payQ, sumN_set (by omega), if_pos (by omega), e14, gP]
    omega
  refine ⟨e, g1, g2, r', ?_⟩
  have ht : totE (payP P 14 to am) = 0 := totE0.2 (by unfold totOk; rw [hs]; exact m1)
  unfold bmay
  rw [ht, g2, wrap64, Int.emod_eq_of_lt (by omega) (by omega)]
  simp
  omega
noncomputable def cd_lawOnce : Code := (Go.Proofs.Try.f4.body).getD .skip
def sg_lawOnce : List Arg := [.ag [.rcs 1 32, .slr 2], .one (.int .u8), .one (.int .u32)]
def pr_lawOnce : SgT FMp sg_lawOnce → List Prop
  | ((acc, ((A, (ou, c)), ())), (bi, (hv, ()))) => (fun (acc : List (Int × Int × List Int)) (A : Option Addr) (ou : List (Int × Int)) (c : Nat) (bi hv : Int) => ([a64 acc, ∀ a ∈ acc, rg a.2.2, 0 ≤ bi, bi < 256, 0 ≤ hv, hv < 4294967296, ∀ j, (0 ≤ (ou.getD j (0, 0)).1 ∧ (ou.getD j (0, 0)).1 < 18446744073709551616) ∧ (0 ≤ (ou.getD j (0, 0)).2 ∧ (ou.getD j (0, 0)).2 < 18446744073709551616)] : List Prop)) acc A ou c bi hv
def ps_lawOnce : SgT FMp sg_lawOnce → PS FMp
  | ((acc, ((A, (ou, c)), ())), (bi, (hv, ()))) => (fun (acc : List (Int × Int × List Int)) (A : Option Addr) (ou : List (Int × Int)) (c : Nat) (bi hv : Int) => (⟨Unit, fun y => [], fun y => one (.bool (true)), fun y => [], fun y => []⟩ : PS FMp)) acc A ou c bi hv
def la_lawOnce : SgT FMp sg_lawOnce → List (Nat × (SS FMp → HA FMp))
  | ((acc, ((A, (ou, c)), ())), (bi, (hv, ()))) => (fun (acc : List (Int × Int × List Int)) (A : Option Addr) (ou : List (Int × Int)) (c : Nat) (bi hv : Int) => ([] : List (Nat × (SS FMp → HA FMp)))) acc A ou c bi hv
def ca_lawOnce : SgT FMp sg_lawOnce → List (Nat × (SS FMp → HA FMp))
  | ((acc, ((A, (ou, c)), ())), (bi, (hv, ()))) => (fun (acc : List (Int × Int × List Int)) (A : Option Addr) (ou : List (Int × Int)) (c : Nat) (bi hv : Int) => ([] : List (Nat × (SS FMp → HA FMp)))) acc A ou c bi hv
theorem vc_lawOnce (acc : List (Int × Int × List Int)) (A : Option Addr) (ou : List (Int × Int)) (c : Nat) (bi hv : Int) : Vc (vc (FM := FMp) Xp 164 [con_rmay6, con_anch21, con_rroot6, con_rproveo, con_bclaim, con_rcheckout] (la_lawOnce ((acc, ((A, (ou, c)), ())), (bi, (hv, ())))) (ca_lawOnce ((acc, ((A, (ou, c)), ())), (bi, (hv, ())))) [] [] [.tmp 6] sg_lawOnce pr_lawOnce ps_lawOnce cd_lawOnce 3000 ((acc, ((A, (ou, c)), ())), (bi, (hv, ())))) := by
  refine ⟨Eq.mpr (β := acc.length = (32 : Nat) → (∀ (a : Int × Int × List Int), List.Mem a acc → a.2.2.length = (32 : Nat)) → (∀ (a : Int × Int), a ∈ ou → True) → a64 acc → (∀ (a : Int × Int × List Int), a ∈ acc → rg a.2.2) → (0 : Int) ≤ bi → bi < (256 : Int) → (0 : Int) ≤ hv → hv < (4294967296 : Int) → (∀ (j : Nat), ((0 : Int) ≤ (ou.getD j ((0 : Int), (0 : Int))).1 ∧ (ou.getD j ((0 : Int), (0 : Int))).1 < (18446744073709551616 : Int)) ∧ (0 : Int) ≤ (ou.getD j ((0 : Int), (0 : Int))).2 ∧ (ou.getD j ((0 : Int), (0 : Int))).2 < (18446744073709551616 : Int)) → ∀ (b : Nat), ou.length = ou.length ∧ a64 acc ∧ ∀ (y : Unit), ((!(decide (stE acc = (0 : Int)) && decide (ou.length ≤ (32 : Nat))) || decide ((↑ou.length : Int) = (0 : Int))) = true → ∀ (y : Unit), ∃ (y : Unit), true = true) ∧ ((!(decide (stE acc = (0 : Int)) && decide (ou.length ≤ (32 : Nat))) || decide ((↑ou.length : Int) = (0 : Int))) = false → (-9223372036854775808 : Int) ≤ bi ∧ bi ≤ (9223372036854775807 : Int) ∧ (0 : Int) ≤ bi ∧ (0 : Int) < (↑ou.length : Int) ∧ (0 : Int) ≤ bi % (↑ou.length : Int) ∧ bi % (↑ou.length : Int) < (↑ou.length : Int) ∧ (bi % (↑ou.length : Int)).toNat < ou.length ∧ (bi % (↑ou.length : Int)).toNat < ou.length ∧ ∀ (b : Nat), ou.length = ou.length ∧ a64 acc ∧ (∀ (a : Int × Int × List Int), a ∈ acc → rg a.2.2) ∧ ∀ (y : Unit), (rt6 acc ou).length = (32 : Nat) → (rt6 acc ou).length = (32 : Nat) → ∀ (b : Nat), ou.length = ou.length ∧ a64 acc ∧ (∀ (a : Int × Int × List Int), a ∈ acc → rg a.2.2) ∧ ∀ (y : Option Addr × Nat × List (List Int) × List Int × Int × Int), y.snd.snd.2.1.length = (32 : Nat) → y.snd.2.1.length = y.snd.2.1.length → (∀ (a : List Int), a ∈ y.snd.2.1 → a.length = (32 : Nat)) → poRes acc ou (bi % (↑ou.length : Int)) y.snd.2.1 y.snd.snd.2.1 y.snd.snd.snd.2.1 y.snd.snd.snd.2.2 → y.snd.snd.2.1.length = (32 : Nat) → (∀ (a : List Int), a ∈ y.snd.2.1 → a.length = (32 : Nat)) → ∀ (b b b : Nat), y.snd.2.1.length = y.snd.2.1.length ∧ (0 : Int) ≤ (ou.getD (bi % (↑ou.length : Int)).toNat ((0, 0) : Int × Int)).1 ∧ (0 : Int) ≤ (ou.getD (bi % (↑ou.length : Int)).toNat ((0, 0) : Int × Int)).2 ∧ (ou.getD (bi % (↑ou.length : Int)).toNat ((0, 0) : Int × Int)).2 < (18446744073709551616 : Int) ∧ (0 : Int) ≤ IntKind.u64.wrap hv ∧ (0 : Int) ≤ (0 : Int) ∧ r64 ((List.replicate (16 : Nat) (0 : Int)).set (14 : Nat) (IntKind.u64.wrap hv)) ∧ ∀ (y_1 : Int × Int × List Bool × List Int × Int), y_1.snd.2.1.length = (32 : Nat) → (∀ (a : Bool), a ∈ y_1.snd.2.1 → True) → y_1.snd.snd.2.1.length = (16 : Nat) → clRes (IntKind.u64.wrap hv) (0 : Int) (List.replicate (32 : Nat) false) ((List.replicate (16 : Nat) (0 : Int)).set (14 : Nat) (IntKind.u64.wrap hv)) (rt6 acc ou) (bi % (↑ou.length : Int)) (ou.getD (bi % (↑ou.length : Int)).toNat ((0, 0) : Int × Int)).1 (ou.getD (bi % (↑ou.length : Int)).toNat ((0, 0) : Int × Int)).2 y.snd.2.1 y.snd.snd.2.1 y.snd.snd.snd.2.1 y_1.1 y_1.2.1 y_1.snd.2.1 y_1.snd.snd.2.1 y_1.snd.snd.2.2 → y_1.snd.snd.2.1.length = (16 : Nat) → y_1.snd.2.1.length = (32 : Nat) → ∀ (b b : Nat), (decide ((14 : Int) ≤ (ou.getD (bi % (↑ou.length : Int)).toNat ((0, 0) : Int × Int)).1) = true → ∀ (y : Unit), ∃ (y : Unit), (true && decide (y_1.snd.snd.2.2 = (2 : Int))) = true) ∧ (decide ((14 : Int) ≤ (ou.getD (bi % (↑ou.length : Int)).toNat ((0, 0) : Int × Int)).1) = false → (decide (IntKind.u64.wrap hv < (ou.getD (bi % (↑ou.length : Int)).toNat ((0, 0) : Int × Int)).2) = true → ∀ (y : Unit), ∃ (y : Unit), (true && decide (y_1.snd.snd.2.2 = (190 : Int))) = true) ∧ (decide (IntKind.u64.wrap hv < (ou.getD (bi % (↑ou.length : Int)).toNat ((0, 0) : Int × Int)).2) = false → y.snd.2.1.length = y.snd.2.1.length ∧ (0 : Int) ≤ (ou.getD (bi % (↑ou.length : Int)).toNat ((0, 0) : Int × Int)).1 ∧ (0 : Int) ≤ (ou.getD (bi % (↑ou.length : Int)).toNat ((0, 0) : Int × Int)).2 ∧ (ou.getD (bi % (↑ou.length : Int)).toNat ((0, 0) : Int × Int)).2 < (18446744073709551616 : Int) ∧ (0 : Int) ≤ y_1.1 ∧ (0 : Int) ≤ y_1.2.1 ∧ r64 y_1.snd.snd.2.1 ∧ ∀ (y_2 : Int × Int × List Bool × List Int × Int), y_2.snd.2.1.length = (32 : Nat) → (∀ (a : Bool), a ∈ y_2.snd.2.1 → True) → y_2.snd.snd.2.1.length = (16 : Nat) → clRes y_1.1 y_1.2.1 y_1.snd.2.1 y_1.snd.snd.2.1 (rt6 acc ou) (bi % (↑ou.length : Int)) (ou.getD (bi % (↑ou.length : Int)).toNat ((0, 0) : Int × Int)).1 (ou.getD (bi % (↑ou.length : Int)).toNat ((0, 0) : Int × Int)).2 y.snd.2.1 y.snd.snd.2.1 y.snd.snd.snd.2.1 y_2.1 y_2.2.1 y_2.snd.2.1 y_2.snd.snd.2.1 y_2.snd.snd.2.2 → y_2.snd.snd.2.1.length = (16 : Nat) → y_2.snd.2.1.length = (32 : Nat) → ∀ (b b : Nat), y.snd.2.1.length = y.snd.2.1.length ∧ (0 : Int) ≤ (ou.getD (bi % (↑ou.length : Int)).toNat ((0, 0) : Int × Int)).1 ∧ (0 : Int) ≤ IntKind.u64.wrap ((ou.getD (bi % (↑ou.length : Int)).toNat ((0, 0) : Int × Int)).2 + (1 : Int)) ∧ IntKind.u64.wrap ((ou.getD (bi % (↑ou.length : Int)).toNat ((0, 0) : Int × Int)).2 + (1 : Int)) < (18446744073709551616 : Int) ∧ (0 : Int) ≤ IntKind.u64.wrap hv ∧ (0 : Int) ≤ (0 : Int) ∧ r64 ((List.replicate (16 : Nat) (0 : Int)).set (14 : Nat) (IntKind.u64.wrap hv)) ∧ ∀ (y_3 : Int × Int × List Bool × List Int × Int), y_3.snd.2.1.length = (32 : Nat) → (∀ (a : Bool), a ∈ y_3.snd.2.1 → True) → y_3.snd.snd.2.1.length = (16 : Nat) → clRes (IntKind.u64.wrap hv) (0 : Int) (List.replicate (32 : Nat) false) ((List.replicate (16 : Nat) (0 : Int)).set (14 : Nat) (IntKind.u64.wrap hv)) (rt6 acc ou) (bi % (↑ou.length : Int)) (ou.getD (bi % (↑ou.length : Int)).toNat ((0, 0) : Int × Int)).1 (IntKind.u64.wrap ((ou.getD (bi % (↑ou.length : Int)).toNat ((0, 0) : Int × Int)).2 + (1 : Int))) y.snd.2.1 y.snd.snd.2.1 y.snd.snd.snd.2.1 y_3.1 y_3.2.1 y_3.snd.2.1 y_3.snd.snd.2.1 y_3.snd.snd.2.2 → y_3.snd.snd.2.1.length = (16 : Nat) → y_3.snd.2.1.length = (32 : Nat) → ∀ (b b : Nat) (y_4 : Unit), ((true && decide (y_1.snd.snd.2.2 = (0 : Int)) && decide (y_2.snd.snd.2.2 = (211 : Int))) = true → (decide (y_3.snd.snd.2.2 = (210 : Int)) = true → (0 : Int) ≤ (ou.getD (bi % (↑ou.length : Int)).toNat ((0, 0) : Int × Int)).1 ∧ (ou.getD (bi % (↑ou.length : Int)).toNat ((0, 0) : Int × Int)).1 < (16 : Int) ∧ (ou.getD (bi % (↑ou.length : Int)).toNat ((0, 0) : Int × Int)).1.toNat < (16 : Nat) ∧ ((decide (y_1.snd.snd.2.1.getD (ou.getD (bi % (↑ou.length : Int)).toNat ((0, 0) : Int × Int)).1.toNat (0 : Int) = IntKind.u64.wrap (IntKind.u64.wrap ((ou.getD (bi % (↑ou.length : Int)).toNat ((0, 0) : Int × Int)).2 + (1 : Int)) - (1 : Int))) && decide (y_1.snd.snd.2.1.getD (14 : Nat) (0 : Int) = IntKind.u64.wrap (IntKind.u64.wrap (IntKind.u64.wrap hv - IntKind.u64.wrap ((ou.getD (bi % (↑ou.length : Int)).toNat ((0, 0) : Int × Int)).2 + (1 : Int))) + (1 : Int)))) = true → (0 : Int) ≤ bi % (↑ou.length : Int) ∧ bi % (↑ou.length : Int) < (32 : Int) ∧ (bi % (↑ou.length : Int)).toNat < (32 : Nat)) ∧ ∃ (y : Unit), (decide (y_1.snd.snd.2.1.getD (ou.getD (bi % (↑ou.length : Int)).toNat ((0, 0) : Int × Int)).1.toNat (0 : Int) = IntKind.u64.wrap (IntKind.u64.wrap ((ou.getD (bi % (↑ou.length : Int)).toNat ((0, 0) : Int × Int)).2 + (1 : Int)) - (1 : Int))) && decide (y_1.snd.snd.2.1.getD (14 : Nat) (0 : Int) = IntKind.u64.wrap (IntKind.u64.wrap (IntKind.u64.wrap hv - IntKind.u64.wrap ((ou.getD (bi % (↑ou.length : Int)).toNat ((0, 0) : Int × Int)).2 + (1 : Int))) + (1 : Int))) && y_1.snd.2.1.getD (bi % (↑ou.length : Int)).toNat false) = true) ∧ (decide (y_3.snd.snd.2.2 = (210 : Int)) = false → y.snd.2.1.length = y.snd.2.1.length ∧ (∀ (a : List Int), a ∈ y.snd.2.1 → rg a) ∧ rg y.snd.snd.2.1 ∧ ∀ (y_5 : Unit), (ckO (rt6 acc ou) (bi % (↑ou.length : Int)) (ou.getD (bi % (↑ou.length : Int)).toNat ((0, 0) : Int × Int)).1 (IntKind.u64.wrap ((ou.getD (bi % (↑ou.length : Int)).toNat ((0, 0) : Int × Int)).2 + (1 : Int))) y.snd.2.1 y.snd.snd.2.1 y.snd.snd.snd.2.1 = true → (0 : Int) ≤ (ou.getD (bi % (↑ou.length : Int)).toNat ((0, 0) : Int × Int)).1 ∧ (ou.getD (bi % (↑ou.length : Int)).toNat ((0, 0) : Int × Int)).1 < (16 : Int) ∧ (ou.getD (bi % (↑ou.length : Int)).toNat ((0, 0) : Int × Int)).1.toNat < (16 : Nat)) ∧ ((ckO (rt6 acc ou) (bi % (↑ou.length : Int)) (ou.getD (bi % (↑ou.length : Int)).toNat ((0, 0) : Int × Int)).1 (IntKind.u64.wrap ((ou.getD (bi % (↑ou.length : Int)).toNat ((0, 0) : Int × Int)).2 + (1 : Int))) y.snd.2.1 y.snd.snd.2.1 y.snd.snd.snd.2.1 && decide (y_1.snd.snd.2.1.getD (ou.getD (bi % (↑ou.length : Int)).toNat ((0, 0) : Int × Int)).1.toNat (0 : Int) = IntKind.u64.wrap (IntKind.u64.wrap ((ou.getD (bi % (↑ou.length : Int)).toNat ((0, 0) : Int × Int)).2 + (1 : Int)) - (1 : Int))) && decide (y_1.snd.snd.2.1.getD (14 : Nat) (0 : Int) = IntKind.u64.wrap (IntKind.u64.wrap (IntKind.u64.wrap hv - IntKind.u64.wrap ((ou.getD (bi % (↑ou.length : Int)).toNat ((0, 0) : Int × Int)).2 + (1 : Int))) + (1 : Int)))) = true → (0 : Int) ≤ bi % (↑ou.length : Int) ∧ bi % (↑ou.length : Int) < (32 : Int) ∧ (bi % (↑ou.length : Int)).toNat < (32 : Nat)) ∧ ∃ (y_6 : Unit), (ckO (rt6 acc ou) (bi % (↑ou.length : Int)) (ou.getD (bi % (↑ou.length : Int)).toNat ((0, 0) : Int × Int)).1 (IntKind.u64.wrap ((ou.getD (bi % (↑ou.length : Int)).toNat ((0, 0) : Int × Int)).2 + (1 : Int))) y.snd.2.1 y.snd.snd.2.1 y.snd.snd.snd.2.1 && decide (y_1.snd.snd.2.1.getD (ou.getD (bi % (↑ou.length : Int)).toNat ((0, 0) : Int × Int)).1.toNat (0 : Int) = IntKind.u64.wrap (IntKind.u64.wrap ((ou.getD (bi % (↑ou.length : Int)).toNat ((0, 0) : Int × Int)).2 + (1 : Int)) - (1 : Int))) && decide (y_1.snd.snd.2.1.getD (14 : Nat) (0 : Int) = IntKind.u64.wrap (IntKind.u64.wrap (IntKind.u64.wrap hv - IntKind.u64.wrap ((ou.getD (bi % (↑ou.length : Int)).toNat ((0, 0) : Int × Int)).2 + (1 : Int))) + (1 : Int))) && y_1.snd.2.1.getD (bi % (↑ou.length : Int)).toNat false) = true)) ∧ ((true && decide (y_1.snd.snd.2.2 = (0 : Int)) && decide (y_2.snd.snd.2.2 = (211 : Int))) = false → ∃ (y : Unit), false = true))))) (by kernel_rfl) ?_⟩
  simp only [imin, imax, decide_eq_true_eq, decide_eq_false_iff_not, Prod.forall, Prod.exists, exists_eq_left', exists_eq_left, exists_and_left, exists_and_right, exists_eq_right, exists_eq, exists_eq', true_and, and_true, forall_const, exists_const, eq_self, Bool.not_eq_true, Bool.not_eq_eq_eq_not, Bool.not_true, Bool.not_false, Value.slice.injEq, Option.getD_some, imp_self, implies_true, Option.some.injEq, Addr.mk.injEq, true_or, or_true, List.length_cons, List.length_nil, Nat.zero_add, Nat.reduceAdd]
  intro hac hlk ha hg b0 b1 v0 v1 hO
  refine ⟨ha, fun h => ?_⟩
  simp only [Bool.or_eq_false_iff, Bool.not_eq_false', Bool.and_eq_true, decide_eq_true_eq, decide_eq_false_iff_not] at h
  obtain ⟨⟨s1, s2⟩, s3⟩ := h
  have hs : st6 acc ou := ⟨s1, s2⟩
  have hwv : IntKind.u64.wrap hv = hv := by rw [wrap64, Int.emod_eq_of_lt v0 (by omega)]
  rw [hwv]
  have hi0 : 0 ≤ bi % (ou.length : Int) := Int.emod_nonneg _ (by omega)
  have hi1 : bi % (ou.length : Int) < ou.length := Int.emod_lt_of_pos _ (by omega)
  have hx := hO (bi % (ou.length : Int)).toNat
  have hck0 := ck_prove hs hi0 hi1
  generalize bi % (ou.length : Int) = i at hi0 hi1 hx hck0 ⊢
  have hO2 : ou.getD i.toNat (0, 0) = ((ou.getD i.toNat (0, 0)).1, (ou.getD i.toNat (0, 0)).2) := rfl
  generalize (ou.getD i.toNat (0, 0)).1 = to at hx hck0 ⊢
  generalize (ou.getD i.toNat (0, 0)).2 = am at hx hck0 ⊢
  obtain ⟨⟨t0, t1⟩, a0, a1⟩ := hx
  obtain ⟨rP, mP, gP, lP, zP⟩ := purse0 v0 v1
  generalize (List.replicate 16 (0 : Int)).set 14 hv = P at rP mP gP lP zP ⊢
  refine ⟨by omega, by omega, b0, by omega, hi0, hi1, by omega, by omega, ha, hg, fun _ _ => ⟨ha, hg, fun w oth cnt e1 hoth hw hpo _ _ => ⟨t0, a0, a1, v0, by omega, rP, fun i1 o1 sp1 p1 ee1 l1 l2 hc1 _ _ => ?_⟩⟩⟩
  obtain ⟨-, e0, rfl, rfl, rfl⟩ := hpo.resolve_right (fun o => o.1 ⟨hs, hi0, hi1⟩)
  obtain ⟨hE1, hc1⟩ := hc1
  refine ⟨fun h14 => ?_, fun h14 => ⟨fun hlt => ?_, fun hlt => ?_⟩⟩
  · rw [hE1, clE1 (by rw [decide_eq_true h14, Bool.or_true])]; rfl
  · have hE := clE4 (sp := List.replicate 32 false) (p := P) ⟨mP, show to < 14 by omega⟩ hck0 (getD_rep _ _)
    have hp : payE P 14 to am = 190 := by
      rw [payE, if_pos ⟨(bmay_tot mP).1, by omega, by omega, t0, by omega⟩, if_neg (by rw [show (14 : Int).toNat = 14 from rfl, gP]; omega)]
    rw [hE1, hE, hp]; rfl
  obtain ⟨f1, f2, f3, f4, f5⟩ := payR_facts lP rP mP gP t0 (show to < 14 by omega) a0 (show am ≤ hv by omega) (zP _ (by omega))
  have hE := clE4 (sp := List.replicate 32 false) (p := P) ⟨mP, show to < 14 by omega⟩ hck0 (getD_rep _ _)
  rw [hE, f1] at hE1
  obtain ⟨-, d1, d2, d3, d4⟩ := hc1.resolve_right (fun o => o.1 hE1)
  rw [Int.zero_add] at d2
  have d1 := d1.symm
  have d2 := d2.symm
  subst d1 d2 d3 d4
  have hsp : ((List.replicate 32 false).set i.toNat true).getD i.toNat false = true := by
    rw [List.getD_eq_getElem?_getD, List.getElem?_set_self (by simp; omega)]; rfl
  have w1 : IntKind.u64.wrap (am + 1) = am + 1 := by rw [wrap64, Int.emod_eq_of_lt (by omega) (by omega)]
  have w2 : IntKind.u64.wrap (am + 1 - 1) = am := by rw [wrap64, Int.emod_eq_of_lt (by omega) (by omega)]; omega
  have w3 : IntKind.u64.wrap (IntKind.u64.wrap (hv - (am + 1)) + 1) = hv - am := by
    rw [wrap64, wrap64, Int.emod_add_emod, Int.emod_eq_of_lt (by omega) (by omega)]; omega
  simp only [w1, w2, w3, f2, f3, hsp]
  have hi32 : i < 32 := by omega
  have hw32 := rg_prf (outLg ou) i
  have hr32 := rg_root _ (accLg acc) (by rw [accL_length, hac]; decide)
  refine ⟨t0, a0, a1, v0, a0, f4, fun i2 o2 sp2 p2 ee2 _ _ hc2 _ _ => ⟨t0, by omega, by omega, v0, by omega, rP, fun i3 o3 sp3 p3 ee3 _ _ hc3 _ _ => ?_⟩⟩
  have hE2 := hc2.1
  rw [clE3 ⟨f5, show to < 14 by omega⟩ hck0 hsp] at hE2
  have hE3 := hc3.1
  refine ⟨fun _ => ⟨fun _ => ⟨t0, by omega, by omega, fun _ => ⟨hi0, hi32, by omega⟩, by simp⟩, fun hn => ⟨hw32, hr32, fun _ => ⟨t0, by omega, by omega⟩, fun _ => ⟨hi0, hi32, by omega⟩, ?_⟩⟩, fun h => ?_⟩
  · cases hk : ckO (rt6 acc ou) i to (am + 1) (prfL 5 (outL ou) i) (rootH 5 (accL acc)) (ou.length : Int) with
    | true => simp
    | false => exact absurd (hE3.trans (clE2 ⟨mP, show to < 14 by omega⟩ hk)) hn
  · simp [hE1, hE2] at h
noncomputable def con_lawOnce : Con Xp.P FMp := ⟨4, sg_lawOnce, pr_lawOnce, ps_lawOnce, vc_ok (La := la_lawOnce) (Ca := ca_lawOnce) 3000 (fn := Go.Proofs.Try.f4) (by kernel_rfl) (c := cd_lawOnce) (by kernel_rfl) (by kernel_rfl) (by kernel_rfl) (by kernel_rfl) (fun ⟨⟨acc, ⟨⟨A, ⟨ou, c⟩⟩, ⟨⟩⟩⟩, ⟨bi, ⟨hv, ⟨⟩⟩⟩⟩ => vc_lawOnce acc A ou c bi hv)⟩
theorem XpP : Xp.P = Go.Proofs.Try.prog := by kernel_rfl
theorem law_lawOnce (W : World) (acc : List (Int × Int × List Int)) (A : Option Addr) (ou : List (Int × Int)) (c : Nat) (bi hv : Int) (h1 : acc.length = 32) (h2 : ∀ a ∈ acc, a.2.2.length = 32) (ha : a64 acc) (hg : ∀ a ∈ acc, rg a.2.2) (b0 : 0 ≤ bi) (b1 : bi < 256) (v0 : 0 ≤ hv) (v1 : hv < 4294967296) (hO : ∀ j, (0 ≤ (ou.getD j (0, 0)).1 ∧ (ou.getD j (0, 0)).1 < 18446744073709551616) ∧ (0 ≤ (ou.getD j (0, 0)).2 ∧ (ou.getD j (0, 0)).2 < 18446744073709551616)) (hR : Rd W A (fden fmOut ou ++ [])) : Calls Go.Proofs.Try.prog 4 #[.agg (fden fmAccount acc ++ ([Value.slice A ou.length c] ++ [])).toArray, .int .u8 bi, .int .u32 hv] W (fun e w' => e = .returned (.bool true) ∧ Hp no W w' []) := by
  have hy : All (sgHy (FM := FMp) sg_lawOnce ((acc, ((A, (ou, c)), ())), (bi, (hv, ())))) := ⟨h1, h2, fun _ _ => trivial, trivial⟩
  have hrk : ROk (FM := FMp) (sgBd (FM := FMp) sg_lawOnce ((acc, ((A, (ou, c)), ())), (bi, (hv, ()))) 0).1 W (sgBd (FM := FMp) sg_lawOnce ((acc, ((A, (ou, c)), ())), (bi, (hv, ()))) 0).2 := ⟨⟨hR, ⟨fun a _ => fmRd.flat rfl W a, trivial⟩⟩, trivial⟩
  have hpr : All (pr_lawOnce ((acc, ((A, (ou, c)), ())), (bi, (hv, ())))) := ⟨ha, hg, b0, b1, v0, v1, hO, trivial⟩
  have h0 : Calls Xp.P 4 #[.agg (fden fmAccount acc ++ ([Value.slice A ou.length c] ++ [])).toArray, .int .u8 bi, .int .u32 hv] W ((ps_lawOnce ((acc, ((A, (ou, c)), ())), (bi, (hv, ())))).R no W) := con_lawOnce.ok W ((acc, ((A, (ou, c)), ())), (bi, (hv, ()))) hy hrk hpr
  have h1 : Calls Xp.P 4 #[.agg (fden fmAccount acc ++ ([Value.slice A ou.length c] ++ [])).toArray, .int .u8 bi, .int .u32 hv] W (fun e w' => e = .returned (.bool true) ∧ Hp no W w' []) := h0.mono fun e w' h => by
    obtain ⟨_, h1, _, _, h2, _⟩ := h
    exact ⟨h1, h2⟩
  rw [XpP] at h1
  exact h1

end Go.Pw
