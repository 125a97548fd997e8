/-
  Walks by computing. No condition.
-/
import Derived.Test.YtogpbbgcdeiplaaMe1
set_option linter.all false
set_option maxRecDepth 100000
set_option maxHeartbeats 1000000
namespace Go.Pw
open Go Go.Px Go.RowKit
attribute [local irreducible] shaF

def Z32 : List Int := List.replicate 32 0
def pr2 (x y : List Int) : List Int := shaF ([1] ++ x ++ y)
def fldN (i : Nat) (ps : List (List Int)) (x : List Int) : Nat → List Int
  | 0 => x
  | k + 1 => if (i / 2 ^ k) % 2 = 0 then pr2 (fldN i ps x k) (ps.getD k (List.replicate 32 0)) else pr2 (ps.getD k (List.replicate 32 0)) (fldN i ps x k)
def fldOk (i : Int) (n : Nat) : Prop := n ≤ 16 ∧ 0 ≤ i ∧ i < 2 ^ n
instance (i : Int) (n : Nat) : Decidable (fldOk i n) := by unfold fldOk; infer_instance
def fldH (i : Int) (x : List Int) (ps : List (List Int)) : List Int := if fldOk i ps.length then fldN i.toNat ps x ps.length else List.replicate 32 0
def fldE (i : Int) (n : Nat) : Int := if fldOk i n then 0 else 2
def stp (e : List Int) (n : Nat) (k : Nat) (c : List (List Int)) : List (List Int) := c.set k (pr2 (c.getD (2 * k) (List.replicate 32 0)) (if 2 * k + 1 < n then c.getD (2 * k + 1) (List.replicate 32 0) else e))
def halfL (e : List Int) : List (List Int) → List (List Int)
  | [] => []
  | [x] => [pr2 x e]
  | x :: y :: r => pr2 x y :: halfL e r
def lvl (ls : List (List Int)) : Nat → List (List Int)
  | 0 => ls
  | d + 1 => halfL (emp d) (lvl ls d)
def rootH (d : Int) (ls : List (List Int)) : List Int := if askV d 0 ls.length = 0 then (lvl ls d.toNat).getD 0 (emp d.toNat) else List.replicate 32 0
theorem pr2_length (x y : List Int) : (pr2 x y).length = 32 := shaF_length _
theorem fldN_length {i : Nat} {ps : List (List Int)} {x : List Int} (hx : x.length = 32) : ∀ k, (fldN i ps x k).length = 32
  | 0 => hx
  | k + 1 => by rw [fldN]; split <;> exact pr2_length _ _
theorem fldH_length {i : Int} {ps : List (List Int)} {x : List Int} (hx : x.length = 32) : (fldH i x ps).length = 32 := by
  unfold fldH; split
  · exact fldN_length hx _
  · simp
theorem pow16 {n : Nat} (h : n ≤ 16) : (2 : Int) ^ n ≤ 65536 := by
  have : 2 ^ n ≤ 2 ^ 16 := Nat.pow_le_pow_right (by omega) h
  have e : ((2 ^ n : Nat) : Int) = (2 : Int) ^ n := by simp
  omega
theorem ask_fld {i : Int} {n : Nat} : askV n i 0 = 0 ↔ fldOk i n := by
  unfold askV fldOk
  rw [Int.toNat_natCast]
  have : (0 : Int) < 2 ^ n := Int.pow_pos (by omega)
  split
  · rename_i h; rw [if_neg (by omega)]; exact ⟨fun _ => ⟨by omega, h.2.2.1, h.2.2.2⟩, fun _ => rfl⟩
  · rename_i h; exact ⟨fun e => by omega, fun e => (h ⟨by omega, by omega, e.2.1, e.2.2⟩).elim⟩
theorem ask_root {d : Int} {n : Nat} (h : askV d 0 n = 0) : 0 ≤ d ∧ d ≤ 16 ∧ (n : Int) ≤ 2 ^ d.toNat ∧ n ≤ 65536 := by
  unfold askV at h
  split at h
  · rename_i h0
    split at h
    · cases h
    · have := pow16 (n := d.toNat) (by omega); exact ⟨h0.1, h0.2.1, by omega, by omega⟩
  · cases h
theorem bit0 {x : Int} (h0 : 0 ≤ x) (h1 : x < 65536) : bnd .i64 x 1 = ((x.toNat % 2 : Nat) : Int) := by
  have e : ((BitVec.ofInt 64 x &&& BitVec.ofInt 64 1).toNat : Int) = ((x.toNat % 2 : Nat) : Int) := by
    rw [BitVec.toNat_and, BitVec.toNat_ofInt, BitVec.toNat_ofInt]
    have e1 : (x % ((2 ^ 64 : Nat) : Int)).toNat = x.toNat := by rw [Int.emod_eq_of_lt h0 (by omega)]
    rw [e1]
    exact congrArg (fun n : Nat => (n : Int)) (Nat.and_one_is_mod x.toNat)
  show IntKind.i64.wrap ((BitVec.ofInt 64 x &&& BitVec.ofInt 64 1).toNat : Int) = _
  rw [e]
  have : x.toNat % 2 = 0 ∨ x.toNat % 2 = 1 := by omega
  rcases this with h | h <;> rw [h] <;> rfl
theorem shr_i {i d : Int} (h0 : 0 ≤ i) (h1 : 0 ≤ d) (h2 : d ≤ 16) : shrV .i64 i d = ((i.toNat / 2 ^ d.toNat : Nat) : Int) := by
  unfold shrV
  rw [show min d.toNat IntKind.i64.bits = d.toNat from Nat.min_eq_left (by show d.toNat ≤ 64; omega), Int.fdiv_eq_ediv_of_nonneg _ (Int.le_of_lt (Int.pow_pos (by omega)))]
  have e : ((2 ^ d.toNat : Nat) : Int) = (2 : Int) ^ d.toNat := by simp
  rw [← e, Int.natCast_ediv, Int.toNat_of_nonneg h0]
theorem bit_i {i d : Int} (h0 : 0 ≤ i) (hi : i < 65536) (h1 : 0 ≤ d) (h2 : d ≤ 16) : bnd .i64 (shrV .i64 i d) 1 = 0 ↔ (i.toNat / 2 ^ d.toNat) % 2 = 0 := by
  have hm := Nat.div_le_self i.toNat (2 ^ d.toNat)
  rw [shr_i h0 h1 h2]
  generalize i.toNat / 2 ^ d.toNat = m at hm ⊢
  rw [bit0 (by omega) (by omega), Int.toNat_natCast]
  omega
theorem halfL_length {e : List Int} : ∀ l : List (List Int), (halfL e l).length = (l.length + 1) / 2
  | [] => rfl
  | [_] => by simp [halfL]
  | _ :: _ :: r => by simp only [halfL, List.length_cons, halfL_length r]; omega
theorem halfL_getD {e : List Int} : ∀ (l : List (List Int)) (j : Nat), j < (l.length + 1) / 2 → (halfL e l).getD j (List.replicate 32 0) = pr2 (l.getD (2 * j) (List.replicate 32 0)) (if 2 * j + 1 < l.length then l.getD (2 * j + 1) (List.replicate 32 0) else e)
  | [], j, h => by simp at h
  | [x], j, h => by
    have : j = 0 := by simp at h; omega
    subst this; rfl
  | x :: y :: r, 0, _ => by simp [halfL]
  | x :: y :: r, j + 1, h => by
    have := halfL_getD (e := e) r j (by simp at h; omega)
    rw [halfL, List.getD_cons_succ, this, show 2 * (j + 1) = 2 * j + 1 + 1 by omega, List.getD_cons_succ, List.getD_cons_succ, List.getD_cons_succ, List.getD_cons_succ]
    simp only [List.length_cons, show (2 * j + 1 + 1 + 1 < r.length + 1 + 1) = (2 * j + 1 < r.length) from propext (by omega)]
theorem stp_getD {e : List Int} {n : Nat} {c : List (List Int)} (hc : n ≤ c.length) : ∀ k, 2 * k ≤ n + 1 → (itN (stp e n) k c).length = c.length ∧ ∀ j, (itN (stp e n) k c).getD j (List.replicate 32 0) = if j < k then pr2 (c.getD (2 * j) (List.replicate 32 0)) (if 2 * j + 1 < n then c.getD (2 * j + 1) (List.replicate 32 0) else e) else c.getD j (List.replicate 32 0)
  | 0, _ => ⟨rfl, fun j => by rw [itN, if_neg (by omega)]⟩
  | k + 1, h => by
    obtain ⟨h1, h2⟩ := stp_getD hc k (by omega)
    have e1 := h2 (2 * k)
    have e2 := h2 (2 * k + 1)
    rw [if_neg (by omega)] at e1 e2
    rw [itN, stp, e1, e2]
    generalize itN (stp e n) k c = q at h1 h2
    refine ⟨by rw [List.length_set, h1], fun j => ?_⟩
    by_cases hj : j = k
    · subst hj
      rw [if_pos (show j < j + 1 by omega)]
      simp [List.getD_eq_getElem?_getD, List.getElem?_set, h1, show j < c.length by omega]
    · have e3 : (q.set k (pr2 (c.getD (2 * k) (List.replicate 32 0)) (if 2 * k + 1 < n then c.getD (2 * k + 1) (List.replicate 32 0) else e))).getD j (List.replicate 32 0) = q.getD j (List.replicate 32 0) := by
        simp [List.getD_eq_getElem?_getD, List.getElem?_set, show ¬ k = j by omega]
      rw [e3, h2 j]
      by_cases hk : j < k
      · rw [if_pos hk, if_pos (show j < k + 1 by omega)]
      · rw [if_neg hk, if_neg (show ¬ j < k + 1 by omega)]
theorem getD_lt {α : Type} {l : List α} {i : Nat} (h : i < l.length) (d : α) : l.getD i d = l[i] := by simp [List.getD_eq_getElem?_getD, List.getElem?_eq_getElem h]
theorem take_stp {e : List Int} {n k : Nat} {c : List (List Int)} (hc : n ≤ c.length) (hk : k = (n + 1) / 2) : (itN (stp e n) k c).take k = halfL e (c.take n) := by
  obtain ⟨h1, h2⟩ := stp_getD (e := e) hc k (by omega)
  have hl : (c.take n).length = n := by rw [List.length_take]; omega
  refine List.ext_getElem (by rw [List.length_take, h1, halfL_length, hl]; omega) fun i hi hi' => ?_
  rw [List.length_take] at hi
  rw [halfL_length, hl] at hi'
  have e3 := h2 i
  have e4 := halfL_getD (e := e) (c.take n) i (by rw [hl]; omega)
  rw [if_pos (by omega)] at e3
  rw [hl] at e4
  have t1 : ∀ j, j < n → (c.take n).getD j (List.replicate 32 0) = c.getD j (List.replicate 32 0) := fun j hj => by simp [List.getD_eq_getElem?_getD, List.getElem?_take, hj]
  rw [t1 _ (by omega)] at e4
  rw [List.getElem_take, ← getD_lt (d := List.replicate 32 0), e3, ← getD_lt (d := List.replicate 32 0), e4]
  by_cases hb : 2 * i + 1 < n
  · rw [if_pos hb, if_pos hb, t1 _ hb]
  · rw [if_neg hb, if_neg hb]
theorem mem_getD {l : List (List Int)} {n i : Nat} (h : ∀ a ∈ l, a.length = n) (hi : i < l.length) (d : List Int) : (l.getD i d).length = n := by rw [getD_lt hi]; exact h _ (List.getElem_mem hi)
theorem BY32 : Go.Proofs.Try.prog.types[40].bytes = 32 := by kernel_rfl
def la_F (S : SS FMp) (id : Nat) : List (List Int) := match pcAt S.m id with
  | some (_, p) => match p.ce with
    | [.f 0 l _] => l
    | _ => []
  | none => []
def la_n (S : SS FMp) (t : Nat) : Nat := match lookS S.T t with
  | some (.v (.one (.sc _ _ n _ _))) => n
  | _ => 0
def la_q (S : SS FMp) (t : Nat) : Nat := match lookS S.T t with
  | some (.v (.one (.sc _ _ _ q _))) => q
  | _ => 0

noncomputable def cd_fold : Code := (Go.Proofs.Try.f96.body).getD .skip
def sg_fold : List Arg := [.one (.int .i64), .ag [.arr .u8 32], .one (.slr 0)]
def pr_fold : SgT FMp sg_fold → List Prop
  | (i, ((x, ()), ((A, (ps, c)), ()))) => (fun (i : Int) (x : List Int) (A : Option Addr) (ps : List (List Int)) (c : Nat) => ([] : List Prop)) i x A ps c
def ps_fold : SgT FMp sg_fold → PS FMp
  | (i, ((x, ()), ((A, (ps, c)), ()))) => (fun (i : Int) (x : List Int) (A : Option Addr) (ps : List (List Int)) (c : Nat) => (⟨Unit, fun y => [], fun y => .tup [.ag (zz .u8 (fldH i x ps) 32), .one (.xv (.int .i64 (fldE i ps.length)))], fun y => [], fun y => [(fldH i x ps).length = 32]⟩ : PS FMp)) i x A ps c
def la_fold : SgT FMp sg_fold → List (Nat × (SS FMp → HA FMp))
  | (i, ((x, ()), ((A, (ps, c)), ()))) => (fun (i : Int) (x : List Int) (A : Option Addr) (ps : List (List Int)) (c : Nat) => ([(4, fun S => ⟨Int × (List Int), fun y => [], fun n y => [(23, some (one (.int .i64 (y.1))))], fun n y => setId S.m 1 (zz .u8 y.2 32), fun y => [0 ≤ y.1, y.1 ≤ ps.length, y.2 = fldN i.toNat ps x y.1.toNat], fun y => (ps.length - y.1).toNat⟩)] : List (Nat × (SS FMp → HA FMp)))) i x A ps c
def ca_fold : SgT FMp sg_fold → List (Nat × (SS FMp → HA FMp))
  | (i, ((x, ()), ((A, (ps, c)), ()))) => (fun (i : Int) (x : List Int) (A : Option Addr) (ps : List (List Int)) (c : Nat) => ([] : List (Nat × (SS FMp → HA FMp)))) i x A ps c
theorem vc_fold (i : Int) (x : List Int) (A : Option Addr) (ps : List (List Int)) (c : Nat) : Vc (vc (FM := FMp) Xp 41 [con_asked, con_pair] (la_fold (i, ((x, ()), ((A, (ps, c)), ())))) (ca_fold (i, ((x, ()), ((A, (ps, c)), ())))) [] [] [.cell 6 40, .tmp 7] sg_fold pr_fold ps_fold cd_fold 300 (i, ((x, ()), ((A, (ps, c)), ())))) := by
  refine ⟨Eq.mpr (β := x.length = (32 : Nat) → (∀ (a : List Int), a ∈ ps → a.length = (32 : Nat)) → ∀ (b b : Nat), (decide ((16 : Int) < (↑ps.length : Int)) = true → ∃ (y : Unit), List.replicate (32 : Nat) (0 : Int) = fldH i x ps ∧ (32 : Nat) = (32 : Nat) ∧ (2 : Int) = fldE i ps.length ∧ (fldH i x ps).length = (32 : Nat)) ∧ (decide ((16 : Int) < (↑ps.length : Int)) = false → ∀ (y : Unit), ((!decide (askV (↑ps.length : Int) i (0 : Int) = (0 : Int))) = true → ∃ (y : Unit), List.replicate (32 : Nat) (0 : Int) = fldH i x ps ∧ (32 : Nat) = (32 : Nat) ∧ (2 : Int) = fldE i ps.length ∧ (fldH i x ps).length = (32 : Nat)) ∧ ((!decide (askV (↑ps.length : Int) i (0 : Int) = (0 : Int))) = false → (∃ (y : Int × List Int), (0 : Int) = y.1 ∧ List.replicate (32 : Nat) (0 : Int) = List.replicate (32 : Nat) (0 : Int) ∧ (32 : Nat) = (32 : Nat) ∧ x = y.2 ∧ (32 : Nat) = (32 : Nat) ∧ (0 : Int) ≤ y.1 ∧ y.1 ≤ (↑ps.length : Int) ∧ y.2 = fldN i.toNat ps x y.1.toNat) ∧ ∀ (y : Int × List Int), (32 : Nat) = (32 : Nat) → y.2.length = (32 : Nat) → (0 : Int) ≤ y.1 → y.1 ≤ (↑ps.length : Int) → y.2 = fldN i.toNat ps x y.1.toNat → (decide (y.1 < (↑ps.length : Int)) = true → (0 : Int) ≤ y.1 ∧ y.1 < (↑ps.length : Int) ∧ y.1.toNat < ps.length ∧ y.1.toNat < ps.length ∧ ∀ (b : Nat), (0 : Int) ≤ y.1 ∧ (decide (bnd IntKind.i64 (shrV IntKind.i64 i y.1) (1 : Int) = (0 : Int)) = true → ∀ (y_1 : Unit), (shaF ([(1 : Int)] ++ y.2 ++ ps.getD y.1.toNat (List.replicate (32 : Nat) (0 : Int)))).length = (32 : Nat) → (shaF ([(1 : Int)] ++ y.2 ++ ps.getD y.1.toNat (List.replicate (32 : Nat) (0 : Int)))).length = (32 : Nat) → (-9223372036854775808 : Int) ≤ y.1 + (1 : Int) ∧ y.1 + (1 : Int) ≤ (9223372036854775807 : Int) ∧ ∃ (y_2 : Int × List Int), y.1 + (1 : Int) = y_2.1 ∧ List.replicate (32 : Nat) (0 : Int) = List.replicate (32 : Nat) (0 : Int) ∧ (32 : Nat) = (32 : Nat) ∧ shaF ([(1 : Int)] ++ y.2 ++ ps.getD y.1.toNat (List.replicate (32 : Nat) (0 : Int))) = y_2.2 ∧ (32 : Nat) = (32 : Nat) ∧ (0 : Int) ≤ y_2.1 ∧ y_2.1 ≤ (↑ps.length : Int) ∧ y_2.2 = fldN i.toNat ps x y_2.1.toNat ∧ ((↑ps.length : Int) - y_2.1).toNat < ((↑ps.length : Int) - y.1).toNat) ∧ (decide (bnd IntKind.i64 (shrV IntKind.i64 i y.1) (1 : Int) = (0 : Int)) = false → ∀ (y_1 : Unit), (shaF ([(1 : Int)] ++ ps.getD y.1.toNat (List.replicate (32 : Nat) (0 : Int)) ++ y.2)).length = (32 : Nat) → (shaF ([(1 : Int)] ++ ps.getD y.1.toNat (List.replicate (32 : Nat) (0 : Int)) ++ y.2)).length = (32 : Nat) → (-9223372036854775808 : Int) ≤ y.1 + (1 : Int) ∧ y.1 + (1 : Int) ≤ (9223372036854775807 : Int) ∧ ∃ (y_2 : Int × List Int), y.1 + (1 : Int) = y_2.1 ∧ List.replicate (32 : Nat) (0 : Int) = List.replicate (32 : Nat) (0 : Int) ∧ (32 : Nat) = (32 : Nat) ∧ shaF ([(1 : Int)] ++ ps.getD y.1.toNat (List.replicate (32 : Nat) (0 : Int)) ++ y.2) = y_2.2 ∧ (32 : Nat) = (32 : Nat) ∧ (0 : Int) ≤ y_2.1 ∧ y_2.1 ≤ (↑ps.length : Int) ∧ y_2.2 = fldN i.toNat ps x y_2.1.toNat ∧ ((↑ps.length : Int) - y_2.1).toNat < ((↑ps.length : Int) - y.1).toNat)) ∧ (decide (y.1 < (↑ps.length : Int)) = false → ∃ (y_1 : Unit), y.2 = fldH i x ps ∧ (32 : Nat) = (32 : Nat) ∧ (0 : Int) = fldE i ps.length ∧ (fldH i x ps).length = (32 : Nat))))) (by kernel_rfl) ?_⟩
  simp only [imin, imax, decide_eq_true_eq, decide_eq_false_iff_not, Prod.forall, Prod.exists, exists_eq_left', exists_eq_left, exists_and_left, exists_and_right, exists_eq_right, exists_eq, exists_eq', true_and, and_true, forall_const, exists_const, eq_self, Bool.not_eq_true, Bool.not_eq_eq_eq_not, Bool.not_true, Bool.not_false, Value.slice.injEq, Option.getD_some]
  intro hx hps
  have hlen := fldH_length (i := i) (ps := ps) hx
  refine ⟨fun h => ?_, fun h => ⟨fun h1 => ?_, fun h1 => ⟨⟨by omega, by omega, rfl⟩, fun d v hv h2 h3 h4 => ⟨fun h5 => ?_, fun h5 => ?_⟩⟩⟩⟩
  · have hn : ¬ fldOk i ps.length := fun e => by have := e.1; omega
    exact ⟨by rw [fldH, if_neg hn], by rw [fldE, if_neg hn], hlen⟩
  · have hn : ¬ fldOk i ps.length := fun e => h1 (ask_fld.2 e)
    exact ⟨by rw [fldH, if_neg hn], by rw [fldE, if_neg hn], hlen⟩
  · have ho := ask_fld.1 h1
    have h16 := pow16 ho.1
    have hb := bit_i (i := i) (d := d) ho.2.1 (by have := ho.2.2; omega) h2 (by omega)
    refine ⟨by omega, by omega, by omega, by omega, by omega, fun h6 _ _ => ⟨by omega, by omega, by omega, by omega, ?_, by omega⟩, fun h6 _ _ => ⟨by omega, by omega, by omega, by omega, ?_, by omega⟩⟩
    · rw [show (d + 1).toNat = d.toNat + 1 by omega, fldN, if_pos (hb.1 h6), pr2, h4]
    · rw [show (d + 1).toNat = d.toNat + 1 by omega, fldN, if_neg (fun e => h6 (hb.2 e)), pr2, h4]
  · have ho := ask_fld.1 h1
    exact ⟨by rw [fldH, if_pos ho, h4, show d.toNat = ps.length by omega], by rw [fldE, if_pos ho], hlen⟩
noncomputable def con_fold : Con Xp.P FMp := ⟨96, sg_fold, pr_fold, ps_fold, vc_ok (La := la_fold) (Ca := ca_fold) 300 (fn := Go.Proofs.Try.f96) (by kernel_rfl) (c := cd_fold) (by kernel_rfl) (by kernel_rfl) (by kernel_rfl) (by kernel_rfl) (fun ⟨i, ⟨⟨x, ⟨⟩⟩, ⟨⟨A, ⟨ps, c⟩⟩, ⟨⟩⟩⟩⟩ => vc_fold i x A ps c)⟩
noncomputable def cd_mroot : Code := (Go.Proofs.Try.f94.body).getD .skip
def sg_mroot : List Arg := [.one (.int .i64), .one (.slr 0)]
def pr_mroot : SgT FMp sg_mroot → List Prop
  | (d, ((A, (ls, c)), ())) => (fun (d : Int) (A : Option Addr) (ls : List (List Int)) (c : Nat) => ([] : List Prop)) d A ls c
def ps_mroot : SgT FMp sg_mroot → PS FMp
  | (d, ((A, (ls, c)), ())) => (fun (d : Int) (A : Option Addr) (ls : List (List Int)) (c : Nat) => (⟨Unit, fun y => [], fun y => .tup [.ag (zz .u8 (rootH d ls) 32), .one (.xv (.int .i64 (askV d 0 ls.length)))], fun y => [], fun y => [(rootH d ls).length = 32]⟩ : PS FMp)) d A ls c
def la_mroot : SgT FMp sg_mroot → List (Nat × (SS FMp → HA FMp))
  | (d, ((A, (ls, c)), ())) => (fun (d : Int) (A : Option Addr) (ls : List (List Int)) (c : Nat) => ([(11600003, fun S => ⟨Int × Nat × (List (List Int)), fun y => [], fun n y => [(19, some (one (.int .i64 (y.1)))), (11, some (.v (.one (.sc 4 0 y.2.1 (la_q S 11) true))))], fun n y => setId S.m 4 [.f 0 y.2.2 ls.length], fun y => [0 ≤ y.1, y.1 ≤ d, y.2.1 ≤ ls.length, y.2.2.take y.2.1 = lvl ls y.1.toNat], fun y => (d - y.1).toNat⟩), (11600008, fun S => ⟨Int × Int × (List (List Int)), fun y => [], fun n y => [(13, some (one (.int .i64 (y.1)))), (14, some (one (.int .i64 (y.2.1))))], fun n y => setId S.m 4 [.f 0 y.2.2 ls.length], fun y => [0 ≤ y.1, y.2.1 = 2 * y.1, y.2.1 ≤ la_n S 11 + 1, y.2.2 = itN (stp (emp (la_i S 12).toNat) (la_n S 11)) y.1.toNat (la_F S 4)], fun y => (la_n S 11 + 2 - y.2.1).toNat⟩)] : List (Nat × (SS FMp → HA FMp)))) d A ls c
def ca_mroot : SgT FMp sg_mroot → List (Nat × (SS FMp → HA FMp))
  | (d, ((A, (ls, c)), ())) => (fun (d : Int) (A : Option Addr) (ls : List (List Int)) (c : Nat) => ([] : List (Nat × (SS FMp → HA FMp)))) d A ls c
theorem vc_mroot (d : Int) (A : Option Addr) (ls : List (List Int)) (c : Nat) : Vc (vc (FM := FMp) Xp 22 [con_asked, con_none_, con_pair] (la_mroot (d, ((A, (ls, c)), ()))) (ca_mroot (d, ((A, (ls, c)), ()))) [] [115, 116, 117] [.cell 4 40, .tmp 5] sg_mroot pr_mroot ps_mroot cd_mroot 300 (d, ((A, (ls, c)), ()))) := by
  refine ⟨Eq.mpr (β := (∀ (a : List Int), a ∈ ls → a.length = (32 : Nat)) → ∀ (b : Nat) (y : Unit), ((!decide (askV d (0 : Int) (↑ls.length : Int) = (0 : Int))) = true → ∃ (y : Unit), List.replicate (32 : Nat) (0 : Int) = rootH d ls ∧ (32 : Nat) = (32 : Nat) ∧ askV d (0 : Int) (↑ls.length : Int) = askV d (0 : Int) (↑ls.length : Int) ∧ (rootH d ls).length = (32 : Nat)) ∧ ((!decide (askV d (0 : Int) (↑ls.length : Int) = (0 : Int))) = false → (0 : Int) ≤ d ∧ d ≤ (16 : Int) ∧ ∀ (y : Unit), (nl (d.toNat + (1 : Nat))).length = (17 : Nat) → (∀ (a : List Int), a ∈ nl (d.toNat + (1 : Nat)) → a.length = (32 : Nat)) → (nl (d.toNat + (1 : Nat))).length = (17 : Nat) → (∀ (a : List Int), a ∈ nl (d.toNat + (1 : Nat)) → a.length = (32 : Nat)) → ∀ (b b : Nat), ls.length = ls.length ∧ ls.length * Proofs.Try.prog.types[(40 : Nat)].bytes ≤ (140737488355328 : Nat) ∧ ∀ (A : Option Addr) (q : Nat), ls.length ≤ q → (∃ (y : Int × Nat × List (List Int)), (0 : Int) = y.1 ∧ ls.length = y.2.1 ∧ q = q ∧ ls.length = ls.length ∧ q = q ∧ ls = y.2.2 ∧ ls.length = ls.length ∧ List.replicate (32 : Nat) (0 : Int) = List.replicate (32 : Nat) (0 : Int) ∧ (32 : Nat) = (32 : Nat) ∧ nl (d.toNat + (1 : Nat)) = nl (d.toNat + (1 : Nat)) ∧ (17 : Nat) = (17 : Nat) ∧ List.replicate (32 : Nat) (0 : Int) = List.replicate (32 : Nat) (0 : Int) ∧ (32 : Nat) = (32 : Nat) ∧ (0 : Int) ≤ y.1 ∧ y.1 ≤ d ∧ y.2.1 ≤ ls.length ∧ List.take y.2.1 y.2.2 = lvl ls y.1.toNat) ∧ ∀ (y : Int × Nat × List (List Int)), y.2.2.length = ls.length → (∀ (a : List Int), a ∈ y.2.2 → a.length = (32 : Nat)) → (32 : Nat) = (32 : Nat) → (nl (d.toNat + (1 : Nat))).length = (17 : Nat) → (∀ (a : List Int), a ∈ nl (d.toNat + (1 : Nat)) → a.length = (32 : Nat)) → (32 : Nat) = (32 : Nat) → (0 : Int) ≤ y.1 → y.1 ≤ d → y.2.1 ≤ ls.length → List.take y.2.1 y.2.2 = lvl ls y.1.toNat → (decide (y.1 < d) = true → (∃ (y_1 : Int × Int × List (List Int)), (0 : Int) = y_1.1 ∧ (0 : Int) = y_1.2.1 ∧ ls.length = ls.length ∧ q = q ∧ y.2.2 = y_1.2.2 ∧ ls.length = ls.length ∧ List.replicate (32 : Nat) (0 : Int) = List.replicate (32 : Nat) (0 : Int) ∧ (32 : Nat) = (32 : Nat) ∧ nl (d.toNat + (1 : Nat)) = nl (d.toNat + (1 : Nat)) ∧ (17 : Nat) = (17 : Nat) ∧ List.replicate (32 : Nat) (0 : Int) = List.replicate (32 : Nat) (0 : Int) ∧ (32 : Nat) = (32 : Nat) ∧ (0 : Int) ≤ y_1.1 ∧ y_1.2.1 = (2 : Int) * y_1.1 ∧ y_1.2.1 ≤ (↑y.2.1 : Int) + (1 : Int) ∧ y_1.2.2 = itN (stp (emp y.1.toNat) y.2.1) y_1.1.toNat y.2.2) ∧ ∀ (y_1 : Int × Int × List (List Int)), y_1.2.2.length = ls.length → (∀ (a : List Int), a ∈ y_1.2.2 → a.length = (32 : Nat)) → (32 : Nat) = (32 : Nat) → (nl (d.toNat + (1 : Nat))).length = (17 : Nat) → (∀ (a : List Int), a ∈ nl (d.toNat + (1 : Nat)) → a.length = (32 : Nat)) → (32 : Nat) = (32 : Nat) → (0 : Int) ≤ y_1.1 → y_1.2.1 = (2 : Int) * y_1.1 → y_1.2.1 ≤ (↑y.2.1 : Int) + (1 : Int) → y_1.2.2 = itN (stp (emp y.1.toNat) y.2.1) y_1.1.toNat y.2.2 → (decide (y_1.2.1 < (↑y.2.1 : Int)) = true → ∀ (b : Nat), (0 : Int) ≤ y.1 ∧ y.1 < (17 : Int) ∧ y.1.toNat < (17 : Nat) ∧ ∀ (b : Nat), (-9223372036854775808 : Int) ≤ y_1.2.1 + (1 : Int) ∧ y_1.2.1 + (1 : Int) ≤ (9223372036854775807 : Int) ∧ (decide (y_1.2.1 + (1 : Int) < (↑y.2.1 : Int)) = true → (-9223372036854775808 : Int) ≤ y_1.2.1 + (1 : Int) ∧ y_1.2.1 + (1 : Int) ≤ (9223372036854775807 : Int) ∧ (0 : Int) ≤ y_1.2.1 + (1 : Int) ∧ y_1.2.1 + (1 : Int) < (↑y.2.1 : Int) ∧ (y_1.2.1 + (1 : Int)).toNat < ls.length ∧ (y_1.2.1 + (1 : Int)).toNat < ls.length ∧ (0 : Int) ≤ y_1.2.1 ∧ y_1.2.1 < (↑y.2.1 : Int) ∧ y_1.2.1.toNat < ls.length ∧ y_1.2.1.toNat < ls.length ∧ ∀ (y_2 : Unit), (shaF ([(1 : Int)] ++ y_1.2.2.getD y_1.2.1.toNat (List.replicate (32 : Nat) (0 : Int)) ++ y_1.2.2.getD (y_1.2.1 + (1 : Int)).toNat (List.replicate (32 : Nat) (0 : Int)))).length = (32 : Nat) → (shaF ([(1 : Int)] ++ y_1.2.2.getD y_1.2.1.toNat (List.replicate (32 : Nat) (0 : Int)) ++ y_1.2.2.getD (y_1.2.1 + (1 : Int)).toNat (List.replicate (32 : Nat) (0 : Int)))).length = (32 : Nat) → (0 : Int) ≤ y_1.1 ∧ y_1.1 < (↑y.2.1 : Int) ∧ y_1.1.toNat < ls.length ∧ y_1.1.toNat < ls.length ∧ (-9223372036854775808 : Int) ≤ y_1.1 + (1 : Int) ∧ y_1.1 + (1 : Int) ≤ (9223372036854775807 : Int) ∧ (-9223372036854775808 : Int) ≤ y_1.2.1 + (2 : Int) ∧ y_1.2.1 + (2 : Int) ≤ (9223372036854775807 : Int) ∧ ∃ (y_3 : Int × Int × List (List Int)), y_1.1 + (1 : Int) = y_3.1 ∧ y_1.2.1 + (2 : Int) = y_3.2.1 ∧ ls.length = ls.length ∧ q = q ∧ y_1.2.2.set y_1.1.toNat (shaF ([(1 : Int)] ++ y_1.2.2.getD y_1.2.1.toNat (List.replicate (32 : Nat) (0 : Int)) ++ y_1.2.2.getD (y_1.2.1 + (1 : Int)).toNat (List.replicate (32 : Nat) (0 : Int)))) = y_3.2.2 ∧ ls.length = ls.length ∧ List.replicate (32 : Nat) (0 : Int) = List.replicate (32 : Nat) (0 : Int) ∧ (32 : Nat) = (32 : Nat) ∧ nl (d.toNat + (1 : Nat)) = nl (d.toNat + (1 : Nat)) ∧ (17 : Nat) = (17 : Nat) ∧ List.replicate (32 : Nat) (0 : Int) = List.replicate (32 : Nat) (0 : Int) ∧ (32 : Nat) = (32 : Nat) ∧ (0 : Int) ≤ y_3.1 ∧ y_3.2.1 = (2 : Int) * y_3.1 ∧ y_3.2.1 ≤ (↑y.2.1 : Int) + (1 : Int) ∧ y_3.2.2 = itN (stp (emp y.1.toNat) y.2.1) y_3.1.toNat y.2.2 ∧ ((↑y.2.1 : Int) + (2 : Int) - y_3.2.1).toNat < ((↑y.2.1 : Int) + (2 : Int) - y_1.2.1).toNat) ∧ (decide (y_1.2.1 + (1 : Int) < (↑y.2.1 : Int)) = false → (0 : Int) ≤ y_1.2.1 ∧ y_1.2.1 < (↑y.2.1 : Int) ∧ y_1.2.1.toNat < ls.length ∧ y_1.2.1.toNat < ls.length ∧ ∀ (y_2 : Unit), (shaF ([(1 : Int)] ++ y_1.2.2.getD y_1.2.1.toNat (List.replicate (32 : Nat) (0 : Int)) ++ (nl (d.toNat + (1 : Nat))).getD y.1.toNat (List.replicate (32 : Nat) (0 : Int)))).length = (32 : Nat) → (shaF ([(1 : Int)] ++ y_1.2.2.getD y_1.2.1.toNat (List.replicate (32 : Nat) (0 : Int)) ++ (nl (d.toNat + (1 : Nat))).getD y.1.toNat (List.replicate (32 : Nat) (0 : Int)))).length = (32 : Nat) → (0 : Int) ≤ y_1.1 ∧ y_1.1 < (↑y.2.1 : Int) ∧ y_1.1.toNat < ls.length ∧ y_1.1.toNat < ls.length ∧ (-9223372036854775808 : Int) ≤ y_1.1 + (1 : Int) ∧ y_1.1 + (1 : Int) ≤ (9223372036854775807 : Int) ∧ (-9223372036854775808 : Int) ≤ y_1.2.1 + (2 : Int) ∧ y_1.2.1 + (2 : Int) ≤ (9223372036854775807 : Int) ∧ ∃ (y_3 : Int × Int × List (List Int)), y_1.1 + (1 : Int) = y_3.1 ∧ y_1.2.1 + (2 : Int) = y_3.2.1 ∧ ls.length = ls.length ∧ q = q ∧ y_1.2.2.set y_1.1.toNat (shaF ([(1 : Int)] ++ y_1.2.2.getD y_1.2.1.toNat (List.replicate (32 : Nat) (0 : Int)) ++ (nl (d.toNat + (1 : Nat))).getD y.1.toNat (List.replicate (32 : Nat) (0 : Int)))) = y_3.2.2 ∧ ls.length = ls.length ∧ List.replicate (32 : Nat) (0 : Int) = List.replicate (32 : Nat) (0 : Int) ∧ (32 : Nat) = (32 : Nat) ∧ nl (d.toNat + (1 : Nat)) = nl (d.toNat + (1 : Nat)) ∧ (17 : Nat) = (17 : Nat) ∧ List.replicate (32 : Nat) (0 : Int) = List.replicate (32 : Nat) (0 : Int) ∧ (32 : Nat) = (32 : Nat) ∧ (0 : Int) ≤ y_3.1 ∧ y_3.2.1 = (2 : Int) * y_3.1 ∧ y_3.2.1 ≤ (↑y.2.1 : Int) + (1 : Int) ∧ y_3.2.2 = itN (stp (emp y.1.toNat) y.2.1) y_3.1.toNat y.2.2 ∧ ((↑y.2.1 : Int) + (2 : Int) - y_3.2.1).toNat < ((↑y.2.1 : Int) + (2 : Int) - y_1.2.1).toNat)) ∧ (decide (y_1.2.1 < (↑y.2.1 : Int)) = false → (0 : Int) ≤ y_1.1 ∧ y_1.1 ≤ (↑q : Int) ∧ (-9223372036854775808 : Int) ≤ y.1 + (1 : Int) ∧ y.1 + (1 : Int) ≤ (9223372036854775807 : Int) ∧ ∃ (y_2 : Int × Nat × List (List Int)), y.1 + (1 : Int) = y_2.1 ∧ y_1.1.toNat = y_2.2.1 ∧ q = q ∧ ls.length = ls.length ∧ q = q ∧ y_1.2.2 = y_2.2.2 ∧ ls.length = ls.length ∧ List.replicate (32 : Nat) (0 : Int) = List.replicate (32 : Nat) (0 : Int) ∧ (32 : Nat) = (32 : Nat) ∧ nl (d.toNat + (1 : Nat)) = nl (d.toNat + (1 : Nat)) ∧ (17 : Nat) = (17 : Nat) ∧ List.replicate (32 : Nat) (0 : Int) = List.replicate (32 : Nat) (0 : Int) ∧ (32 : Nat) = (32 : Nat) ∧ (0 : Int) ≤ y_2.1 ∧ y_2.1 ≤ d ∧ y_2.2.1 ≤ ls.length ∧ List.take y_2.2.1 y_2.2.2 = lvl ls y_2.1.toNat ∧ (d - y_2.1).toNat < (d - y.1).toNat)) ∧ (decide (y.1 < d) = false → (decide ((↑y.2.1 : Int) = (0 : Int)) = true → ∀ (b : Nat), (0 : Int) ≤ d ∧ d < (17 : Int) ∧ d.toNat < (17 : Nat) ∧ ∃ (y : Unit), (nl (d.toNat + (1 : Nat))).getD d.toNat (List.replicate (32 : Nat) (0 : Int)) = rootH d ls ∧ (32 : Nat) = (32 : Nat) ∧ (0 : Int) = askV d (0 : Int) (↑ls.length : Int) ∧ (rootH d ls).length = (32 : Nat)) ∧ (decide ((↑y.2.1 : Int) = (0 : Int)) = false → (0 : Int) ≤ (0 : Int) ∧ (0 : Int) < (↑y.2.1 : Int) ∧ (0 : Nat) < ls.length ∧ (0 : Nat) < ls.length ∧ ∃ (y_1 : Unit), y.2.2.getD (0 : Nat) (List.replicate (32 : Nat) (0 : Int)) = rootH d ls ∧ (32 : Nat) = (32 : Nat) ∧ (0 : Int) = askV d (0 : Int) (↑ls.length : Int) ∧ (rootH d ls).length = (32 : Nat))))) (by kernel_rfl) ?_⟩
  simp only [imin, imax, decide_eq_true_eq, decide_eq_false_iff_not, Prod.forall, Prod.exists, exists_eq_left', exists_eq_left, exists_and_left, exists_and_right, exists_eq_right, exists_eq, exists_eq', true_and, and_true, forall_const, exists_const, eq_self, Bool.not_eq_true, Bool.not_eq_eq_eq_not, Bool.not_true, Bool.not_false, Value.slice.injEq, Option.getD_some]
  intro hls
  refine ⟨fun h => ⟨by rw [rootH, if_neg h], by rw [rootH, if_neg h]; simp⟩, fun h => ?_⟩
  obtain ⟨hd0, hd1, hn, hn2⟩ := ask_root h
  refine ⟨hd0, hd1, fun _ _ _ _ => ⟨by rw [BY32]; omega, fun q hq => ⟨⟨by omega, by omega, by omega, by simp [lvl]⟩, fun t k c hc hca _ _ h1 h2 h3 h4 => ⟨fun h5 => ⟨⟨by omega, by omega, by omega, by rw [Int.toNat_zero, itN]⟩, fun hh i q' hq' hqa _ _ h6 h7 h8 h9 => ⟨fun h10 => ?_, fun h10 => ?_⟩⟩, fun h5 => ⟨fun h6 => ?_, fun h6 => ?_⟩⟩⟩⟩⟩
  · subst h7
    refine ⟨by omega, by omega, by omega, by omega, by omega, fun h11 => ⟨by omega, by omega, by omega, by omega, by omega, by omega, by omega, by omega, by omega, by omega, fun _ _ => ?_⟩, fun h11 => ⟨by omega, by omega, by omega, by omega, fun _ _ => ?_⟩⟩
    · repeat refine ⟨by first | omega | with_reducible assumption | with_reducible rfl, ?_⟩
      refine ⟨?_, by omega⟩
      rw [show (hh + 1).toNat = hh.toNat + 1 by omega, itN, stp, ← h9, if_pos (by omega), pr2, show (2 * hh + 1).toNat = 2 * hh.toNat + 1 by omega, show (2 * hh).toNat = 2 * hh.toNat by omega]
    · repeat refine ⟨by first | omega | with_reducible assumption | with_reducible rfl, ?_⟩
      refine ⟨?_, by omega⟩
      rw [show (hh + 1).toNat = hh.toNat + 1 by omega, itN, stp, ← h9, if_neg (by omega), pr2, show (2 * hh).toNat = 2 * hh.toNat by omega, nl_get _ _ (by omega) (by omega)]
  · refine ⟨by omega, by omega, by omega, by omega, by omega, by omega, by omega, ?_, by omega⟩
    rw [h9, show (t + 1).toNat = t.toNat + 1 by omega, lvl, ← h4, take_stp (by omega) (by omega)]
  · have e : rootH d ls = emp d.toNat := by rw [rootH, if_pos h, show d.toNat = t.toNat by omega, ← h4, show k = 0 by omega]; rfl
    refine ⟨by omega, by omega, by omega, by rw [nl_get _ _ (by omega) (by omega), e], h.symm, by rw [e]; exact emp_length _⟩
  · have e : rootH d ls = c.getD 0 (List.replicate 32 0) := by
      rw [rootH, if_pos h, show d.toNat = t.toNat by omega, ← h4, getD_lt (by rw [List.length_take]; omega), getD_lt (by omega), List.getElem_take]
    exact ⟨by omega, by omega, by omega, by omega, e.symm, h.symm, by rw [e]; exact mem_getD hca (by omega) _⟩
noncomputable def con_mroot : Con Xp.P FMp := ⟨94, sg_mroot, pr_mroot, ps_mroot, vc_ok (La := la_mroot) (Ca := ca_mroot) 300 (fn := Go.Proofs.Try.f94) (by kernel_rfl) (c := cd_mroot) (by kernel_rfl) (by kernel_rfl) (by kernel_rfl) (by kernel_rfl) (fun ⟨d, ⟨⟨A, ⟨ls, c⟩⟩, ⟨⟩⟩⟩ => vc_mroot d A ls c)⟩

end Go.Pw
