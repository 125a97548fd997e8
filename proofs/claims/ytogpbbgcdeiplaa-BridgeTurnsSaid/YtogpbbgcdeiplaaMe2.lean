/-
  Walks by computing. No condition.
-/
import Derived.Test.YtogpbbgcdeiplaaMe1
set_option linter.all false
set_option maxRecDepth 100000
set_option maxHeartbeats 1000000
namespace Go.Pw
open Go Go.Px Go.RowKit
attribute [local irreducible] shaF

def pr2 (x y : List Int) : List Int := shaF ([1] ++ x ++ y)
def fldN (i : Nat) (ps : List (List Int)) (x : List Int) : Nat → List Int
  | 0 => x
  | k + 1 => if (i / 2 ^ k) % 2 = 0 then pr2 (fldN i ps x k) (ps.getD k (List.replicate 32 0)) else pr2 (ps.getD k (List.replicate 32 0)) (fldN i ps x k)
def fldOk (i : Int) (n : Nat) : Prop := n ≤ 16 ∧ 0 ≤ i ∧ i < 2 ^ n
instance (i : Int) (n : Nat) : Decidable (fldOk i n) := by unfold fldOk; infer_instance
def fldH (i : Int) (x : List Int) (ps : List (List Int)) : List Int := if fldOk i ps.length then fldN i.toNat ps x ps.length else List.replicate 32 0
def fldE (i : Int) (n : Nat) : Int := if fldOk i n then 0 else 2
theorem pr2_length (x y : List Int) : (pr2 x y).length = 32 := shaF_length _
theorem fldN_length {i : Nat} {ps : List (List Int)} {x : List Int} (hx : x.length = 32) : ∀ k, (fldN i ps x k).length = 32
  | 0 => hx
  | k + 1 => by rw [fldN]; split <;> exact pr2_length _ _
theorem fldH_length {i : Int} {ps : List (List Int)} {x : List Int} (hx : x.length = 32) : (fldH i x ps).length = 32 := by
  unfold fldH; split
  · exact fldN_length hx _
  · simp
theorem pow16 {n : Nat} (h : n ≤ 16) : (2 : Int) ^ n ≤ 65536 := by
  have : 2 ^ n ≤ 2 ^ 16 := Nat.pow_le_pow_right (by omega) h
  have e : ((2 ^ n : Nat) : Int) = (2 : Int) ^ n := by simp
  omega
theorem ask_fld {i : Int} {n : Nat} : askV n i 0 = 0 ↔ fldOk i n := by
  unfold askV fldOk
  rw [Int.toNat_natCast]
  have : (0 : Int) < 2 ^ n := Int.pow_pos (by omega)
  split
  · rename_i h; rw [if_neg (by omega)]; exact ⟨fun _ => ⟨by omega, h.2.2.1, h.2.2.2⟩, fun _ => rfl⟩
  · rename_i h; exact ⟨fun e => by omega, fun e => (h ⟨by omega, by omega, e.2.1, e.2.2⟩).elim⟩
theorem bit0 {x : Int} (h0 : 0 ≤ x) (h1 : x < 65536) : bnd .i64 x 1 = ((x.toNat % 2 : Nat) : Int) := by
  have e : ((BitVec.ofInt 64 x &&& BitVec.ofInt 64 1).toNat : Int) = ((x.toNat % 2 : Nat) : Int) := by
    rw [BitVec.toNat_and, BitVec.toNat_ofInt, BitVec.toNat_ofInt]
    have e1 : (x % ((2 ^ 64 : Nat) : Int)).toNat = x.toNat := by rw [Int.emod_eq_of_lt h0 (by omega)]
    rw [e1]
    exact congrArg (fun n : Nat => (n : Int)) (Nat.and_one_is_mod x.toNat)
  show IntKind.i64.wrap ((BitVec.ofInt 64 x &&& BitVec.ofInt 64 1).toNat : Int) = _
  rw [e]
  have : x.toNat % 2 = 0 ∨ x.toNat % 2 = 1 := by omega
  rcases this with h | h <;> rw [h] <;> rfl
theorem shr_i {i d : Int} (h0 : 0 ≤ i) (h1 : 0 ≤ d) (h2 : d ≤ 16) : shrV .i64 i d = ((i.toNat / 2 ^ d.toNat : Nat) : Int) := by
  unfold shrV
  rw [show min d.toNat IntKind.i64.bits = d.toNat from Nat.min_eq_left (by show d.toNat ≤ 64; omega), Int.fdiv_eq_ediv_of_nonneg _ (Int.le_of_lt (Int.pow_pos (by omega)))]
  have e : ((2 ^ d.toNat : Nat) : Int) = (2 : Int) ^ d.toNat := by simp
  rw [← e, Int.natCast_ediv, Int.toNat_of_nonneg h0]
theorem bit_i {i d : Int} (h0 : 0 ≤ i) (hi : i < 65536) (h1 : 0 ≤ d) (h2 : d ≤ 16) : bnd .i64 (shrV .i64 i d) 1 = 0 ↔ (i.toNat / 2 ^ d.toNat) % 2 = 0 := by
  have hm := Nat.div_le_self i.toNat (2 ^ d.toNat)
  rw [shr_i h0 h1 h2]
  generalize i.toNat / 2 ^ d.toNat = m at hm ⊢
  rw [bit0 (by omega) (by omega), Int.toNat_natCast]
  omega
theorem getD_lt {α : Type} {l : List α} {i : Nat} (h : i < l.length) (d : α) : l.getD i d = l[i] := by simp [List.getD_eq_getElem?_getD, List.getElem?_eq_getElem h]

noncomputable def cd_fold : Code := (Go.Proofs.Try.f96.body).getD .skip
def sg_fold : List Arg := [.one (.int .i64), .ag [.arr .u8 32], .one (.slr 0)]
def pr_fold : SgT FMp sg_fold → List Prop
  | (i, ((x, ()), ((A, (ps, c)), ()))) => (fun (i : Int) (x : List Int) (A : Option Addr) (ps : List (List Int)) (c : Nat) => ([] : List Prop)) i x A ps c
def ps_fold : SgT FMp sg_fold → PS FMp
  | (i, ((x, ()), ((A, (ps, c)), ()))) => (fun (i : Int) (x : List Int) (A : Option Addr) (ps : List (List Int)) (c : Nat) => (⟨Unit, fun y => [], fun y => .tup [.ag (zz .u8 (fldH i x ps) 32), .one (.xv (.int .i64 (fldE i ps.length)))], fun y => [], fun y => [(fldH i x ps).length = 32]⟩ : PS FMp)) i x A ps c
def la_fold : SgT FMp sg_fold → List (Nat × (SS FMp → HA FMp))
  | (i, ((x, ()), ((A, (ps, c)), ()))) => (fun (i : Int) (x : List Int) (A : Option Addr) (ps : List (List Int)) (c : Nat) => ([(4, fun S => ⟨Int × (List Int), fun y => [], fun n y => [(23, some (one (.int .i64 (y.1))))], fun n y => setId S.m 1 (zz .u8 y.2 32), fun y => [0 ≤ y.1, y.1 ≤ ps.length, y.2 = fldN i.toNat ps x y.1.toNat], fun y => (ps.length - y.1).toNat⟩)] : List (Nat × (SS FMp → HA FMp)))) i x A ps c
def ca_fold : SgT FMp sg_fold → List (Nat × (SS FMp → HA FMp))
  | (i, ((x, ()), ((A, (ps, c)), ()))) => (fun (i : Int) (x : List Int) (A : Option Addr) (ps : List (List Int)) (c : Nat) => ([] : List (Nat × (SS FMp → HA FMp)))) i x A ps c
theorem vc_fold (i : Int) (x : List Int) (A : Option Addr) (ps : List (List Int)) (c : Nat) : Vc (vc (FM := FMp) Xp 41 [con_asked, con_pair] (la_fold (i, ((x, ()), ((A, (ps, c)), ())))) (ca_fold (i, ((x, ()), ((A, (ps, c)), ())))) [] [] [.cell 6 40, .tmp 7] sg_fold pr_fold ps_fold cd_fold 300 (i, ((x, ()), ((A, (ps, c)), ())))) := by
  refine ⟨Eq.mpr (β := x.length = (32 : Nat) → (∀ (a : List Int), a ∈ ps → a.length = (32 : Nat)) → ∀ (b b : Nat), (decide ((16 : Int) < (↑ps.length : Int)) = true → ∃ (y : Unit), List.replicate (32 : Nat) (0 : Int) = fldH i x ps ∧ (32 : Nat) = (32 : Nat) ∧ (2 : Int) = fldE i ps.length ∧ (fldH i x ps).length = (32 : Nat)) ∧ (decide ((16 : Int) < (↑ps.length : Int)) = false → ∀ (y : Unit), ((!decide (askV (↑ps.length : Int) i (0 : Int) = (0 : Int))) = true → ∃ (y : Unit), List.replicate (32 : Nat) (0 : Int) = fldH i x ps ∧ (32 : Nat) = (32 : Nat) ∧ (2 : Int) = fldE i ps.length ∧ (fldH i x ps).length = (32 : Nat)) ∧ ((!decide (askV (↑ps.length : Int) i (0 : Int) = (0 : Int))) = false → (∃ (y : Int × List Int), (0 : Int) = y.1 ∧ List.replicate (32 : Nat) (0 : Int) = List.replicate (32 : Nat) (0 : Int) ∧ (32 : Nat) = (32 : Nat) ∧ x = y.2 ∧ (32 : Nat) = (32 : Nat) ∧ (0 : Int) ≤ y.1 ∧ y.1 ≤ (↑ps.length : Int) ∧ y.2 = fldN i.toNat ps x y.1.toNat) ∧ ∀ (y : Int × List Int), (32 : Nat) = (32 : Nat) → y.2.length = (32 : Nat) → (0 : Int) ≤ y.1 → y.1 ≤ (↑ps.length : Int) → y.2 = fldN i.toNat ps x y.1.toNat → (decide (y.1 < (↑ps.length : Int)) = true → (0 : Int) ≤ y.1 ∧ y.1 < (↑ps.length : Int) ∧ y.1.toNat < ps.length ∧ y.1.toNat < ps.length ∧ ∀ (b : Nat), (0 : Int) ≤ y.1 ∧ (decide (bnd IntKind.i64 (shrV IntKind.i64 i y.1) (1 : Int) = (0 : Int)) = true → ∀ (y_1 : Unit), (shaF ([(1 : Int)] ++ y.2 ++ ps.getD y.1.toNat (List.replicate (32 : Nat) (0 : Int)))).length = (32 : Nat) → (shaF ([(1 : Int)] ++ y.2 ++ ps.getD y.1.toNat (List.replicate (32 : Nat) (0 : Int)))).length = (32 : Nat) → (-9223372036854775808 : Int) ≤ y.1 + (1 : Int) ∧ y.1 + (1 : Int) ≤ (9223372036854775807 : Int) ∧ ∃ (y_2 : Int × List Int), y.1 + (1 : Int) = y_2.1 ∧ List.replicate (32 : Nat) (0 : Int) = List.replicate (32 : Nat) (0 : Int) ∧ (32 : Nat) = (32 : Nat) ∧ shaF ([(1 : Int)] ++ y.2 ++ ps.getD y.1.toNat (List.replicate (32 : Nat) (0 : Int))) = y_2.2 ∧ (32 : Nat) = (32 : Nat) ∧ (0 : Int) ≤ y_2.1 ∧ y_2.1 ≤ (↑ps.length : Int) ∧ y_2.2 = fldN i.toNat ps x y_2.1.toNat ∧ ((↑ps.length : Int) - y_2.1).toNat < ((↑ps.length : Int) - y.1).toNat) ∧ (decide (bnd IntKind.i64 (shrV IntKind.i64 i y.1) (1 : Int) = (0 : Int)) = false → ∀ (y_1 : Unit), (shaF ([(1 : Int)] ++ ps.getD y.1.toNat (List.replicate (32 : Nat) (0 : Int)) ++ y.2)).length = (32 : Nat) → (shaF ([(1 : Int)] ++ ps.getD y.1.toNat (List.replicate (32 : Nat) (0 : Int)) ++ y.2)).length = (32 : Nat) → (-9223372036854775808 : Int) ≤ y.1 + (1 : Int) ∧ y.1 + (1 : Int) ≤ (9223372036854775807 : Int) ∧ ∃ (y_2 : Int × List Int), y.1 + (1 : Int) = y_2.1 ∧ List.replicate (32 : Nat) (0 : Int) = List.replicate (32 : Nat) (0 : Int) ∧ (32 : Nat) = (32 : Nat) ∧ shaF ([(1 : Int)] ++ ps.getD y.1.toNat (List.replicate (32 : Nat) (0 : Int)) ++ y.2) = y_2.2 ∧ (32 : Nat) = (32 : Nat) ∧ (0 : Int) ≤ y_2.1 ∧ y_2.1 ≤ (↑ps.length : Int) ∧ y_2.2 = fldN i.toNat ps x y_2.1.toNat ∧ ((↑ps.length : Int) - y_2.1).toNat < ((↑ps.length : Int) - y.1).toNat)) ∧ (decide (y.1 < (↑ps.length : Int)) = false → ∃ (y_1 : Unit), y.2 = fldH i x ps ∧ (32 : Nat) = (32 : Nat) ∧ (0 : Int) = fldE i ps.length ∧ (fldH i x ps).length = (32 : Nat))))) (by kernel_rfl) ?_⟩
  simp only [imin, imax, decide_eq_true_eq, decide_eq_false_iff_not, Prod.forall, Prod.exists, exists_eq_left', exists_eq_left, exists_and_left, exists_and_right, exists_eq_right, exists_eq, exists_eq', true_and, and_true, forall_const, exists_const, eq_self, Bool.not_eq_true, Bool.not_eq_eq_eq_not, Bool.not_true, Bool.not_false, Value.slice.injEq, Option.getD_some]
  intro hx hps
  have hlen := fldH_length (i := i) (ps := ps) hx
  refine ⟨fun h => ?_, fun h => ⟨fun h1 => ?_, fun h1 => ⟨⟨by omega, by omega, rfl⟩, fun d v hv h2 h3 h4 => ⟨fun h5 => ?_, fun h5 => ?_⟩⟩⟩⟩
  · have hn : ¬ fldOk i ps.length := fun e => by have := e.1; omega
    exact ⟨by rw [fldH, if_neg hn], by rw [fldE, if_neg hn], hlen⟩
  · have hn : ¬ fldOk i ps.length := fun e => h1 (ask_fld.2 e)
    exact ⟨by rw [fldH, if_neg hn], by rw [fldE, if_neg hn], hlen⟩
  · have ho := ask_fld.1 h1
    have h16 := pow16 ho.1
    have hb := bit_i (i := i) (d := d) ho.2.1 (by have := ho.2.2; omega) h2 (by omega)
    refine ⟨by omega, by omega, by omega, by omega, by omega, fun h6 _ _ => ⟨by omega, by omega, by omega, by omega, ?_, by omega⟩, fun h6 _ _ => ⟨by omega, by omega, by omega, by omega, ?_, by omega⟩⟩
    · rw [show (d + 1).toNat = d.toNat + 1 by omega, fldN, if_pos (hb.1 h6), pr2, h4]
    · rw [show (d + 1).toNat = d.toNat + 1 by omega, fldN, if_neg (fun e => h6 (hb.2 e)), pr2, h4]
  · have ho := ask_fld.1 h1
    exact ⟨by rw [fldH, if_pos ho, h4, show d.toNat = ps.length by omega], by rw [fldE, if_pos ho], hlen⟩
noncomputable def con_fold : Con Xp.P FMp := ⟨96, sg_fold, pr_fold, ps_fold, vc_ok (La := la_fold) (Ca := ca_fold) 300 (fn := Go.Proofs.Try.f96) (by kernel_rfl) (c := cd_fold) (by kernel_rfl) (by kernel_rfl) (by kernel_rfl) (by kernel_rfl) (fun ⟨i, ⟨⟨x, ⟨⟩⟩, ⟨⟨A, ⟨ps, c⟩⟩, ⟨⟩⟩⟩⟩ => vc_fold i x A ps c)⟩

end Go.Pw
