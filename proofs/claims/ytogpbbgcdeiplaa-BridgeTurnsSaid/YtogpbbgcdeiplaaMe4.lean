/-
  Walks by computing. No condition.
-/
import Derived.Test.YtogpbbgcdeiplaaMe3
set_option linter.all false
set_option maxRecDepth 100000
set_option maxHeartbeats 1000000
namespace Go.Pw
open Go Go.Px Go.RowKit
attribute [local irreducible] shaF

def rg (l : List Int) : Prop := ∀ j, 0 ≤ l.getD j 0 ∧ l.getD j 0 < 256
theorem rg_pr2 (x y : List Int) : rg (pr2 x y) := get_of_mem (p := fun x => 0 ≤ x ∧ x < 256) (by omega) (shaF_range _)
theorem rg_sha (x : List Int) : rg (shaF x) := get_of_mem (p := fun x => 0 ≤ x ∧ x < 256) (by omega) (shaF_range _)
theorem rg_z (n : Nat) : rg (List.replicate n 0) := get_of_mem (p := fun x => 0 ≤ x ∧ x < 256) (by omega) (fun x hx => by have := List.eq_of_mem_replicate hx; omega)
theorem rg_getD {l : List (List Int)} (h : ∀ a ∈ l, rg a) (i : Nat) (d : List Int) (hd : rg d) : rg (l.getD i d) := by
  by_cases hi : i < l.length
  · rw [getD_lt hi]; exact h _ (List.getElem_mem hi)
  · rw [List.getD_eq_getElem?_getD, List.getElem?_eq_none (by omega)]; exact hd
theorem rg_fldN {i : Nat} {ps : List (List Int)} {x : List Int} (hx : rg x) : ∀ k, rg (fldN i ps x k)
  | 0 => hx
  | k + 1 => by rw [fldN]; split <;> exact rg_pr2 _ _
theorem rg_fldH {i : Int} {ps : List (List Int)} {x : List Int} (hx : rg x) : rg (fldH i x ps) := by
  unfold fldH; split
  · exact rg_fldN hx _
  · exact rg_z _

noncomputable def cd_rfold : Code := (Go.Proofs.Try.f31.body).getD .skip
def sg_rfold : List Arg := [.one (.int .i64), .ag [.arr .u8 32], .one (.slr 0)]
def pr_rfold : SgT FMp sg_rfold → List Prop
  | (i, ((x, ()), ((A, (ps, c)), ()))) => (fun (i : Int) (x : List Int) (A : Option Addr) (ps : List (List Int)) (c : Nat) => ([rg x, ∀ a ∈ ps, rg a] : List Prop)) i x A ps c
def ps_rfold : SgT FMp sg_rfold → PS FMp
  | (i, ((x, ()), ((A, (ps, c)), ()))) => (fun (i : Int) (x : List Int) (A : Option Addr) (ps : List (List Int)) (c : Nat) => (⟨Unit, fun y => [], fun y => .tup [.ag (zz .u8 (fldH i x ps) 32), .one (.xv (.int .i64 (fldE i ps.length)))], fun y => [], fun y => [(fldH i x ps).length = 32]⟩ : PS FMp)) i x A ps c
def la_rfold : SgT FMp sg_rfold → List (Nat × (SS FMp → HA FMp))
  | (i, ((x, ()), ((A, (ps, c)), ()))) => (fun (i : Int) (x : List Int) (A : Option Addr) (ps : List (List Int)) (c : Nat) => ([(4, fun S => ⟨Int × Int × (List Int), fun y => [], fun n y => [(8, some (one (.int .i64 (y.1)))), (0, some (one (.int .i64 (y.2.1))))], fun n y => setId S.m 1 (zz .u8 y.2.2 32), fun y => [0 ≤ y.1, y.1 ≤ ps.length, y.2.2 = fldN i.toNat ps x y.1.toNat, y.2.1 = ((i.toNat / 2 ^ y.1.toNat : Nat) : Int)], fun y => (ps.length - y.1).toNat⟩)] : List (Nat × (SS FMp → HA FMp)))) i x A ps c
def ca_rfold : SgT FMp sg_rfold → List (Nat × (SS FMp → HA FMp))
  | (i, ((x, ()), ((A, (ps, c)), ()))) => (fun (i : Int) (x : List Int) (A : Option Addr) (ps : List (List Int)) (c : Nat) => ([] : List (Nat × (SS FMp → HA FMp)))) i x A ps c
theorem vc_rfold (i : Int) (x : List Int) (A : Option Addr) (ps : List (List Int)) (c : Nat) : Vc (vc (FM := FMp) Xp 49 [con_rpair] (la_rfold (i, ((x, ()), ((A, (ps, c)), ())))) (ca_rfold (i, ((x, ()), ((A, (ps, c)), ())))) [] [] [.cell 6 40, .tmp 7] sg_rfold pr_rfold ps_rfold cd_rfold 300 (i, ((x, ()), ((A, (ps, c)), ())))) := by
  refine ⟨Eq.mpr (β := x.length = (32 : Nat) → (∀ (a : List Int), a ∈ ps → a.length = (32 : Nat)) → rg x → (∀ (a : List Int), a ∈ ps → rg a) → ∀ (b b : Nat), ((decide ((16 : Int) < (↑ps.length : Int)) || decide (i < (0 : Int))) = false → (0 : Int) ≤ IntKind.u64.wrap (↑ps.length : Int)) ∧ ((decide ((16 : Int) < (↑ps.length : Int)) || decide (i < (0 : Int)) || decide (shlV IntKind.i64 (1 : Int) (IntKind.u64.wrap (↑ps.length : Int)) ≤ i)) = true → ∃ (y : Unit), List.replicate (32 : Nat) (0 : Int) = fldH i x ps ∧ (32 : Nat) = (32 : Nat) ∧ (2 : Int) = fldE i ps.length ∧ (fldH i x ps).length = (32 : Nat)) ∧ ((decide ((16 : Int) < (↑ps.length : Int)) || decide (i < (0 : Int)) || decide (shlV IntKind.i64 (1 : Int) (IntKind.u64.wrap (↑ps.length : Int)) ≤ i)) = false → (∃ (y : Int × Int × List Int), (0 : Int) = y.1 ∧ i = y.2.1 ∧ List.replicate (32 : Nat) (0 : Int) = List.replicate (32 : Nat) (0 : Int) ∧ (32 : Nat) = (32 : Nat) ∧ x = y.2.2 ∧ (32 : Nat) = (32 : Nat) ∧ (0 : Int) ≤ y.1 ∧ y.1 ≤ (↑ps.length : Int) ∧ y.2.2 = fldN i.toNat ps x y.1.toNat ∧ y.2.1 = (↑(i.toNat / (2 : Nat) ^ y.1.toNat) : Int)) ∧ ∀ (y : Int × Int × List Int), (32 : Nat) = (32 : Nat) → y.2.2.length = (32 : Nat) → (0 : Int) ≤ y.1 → y.1 ≤ (↑ps.length : Int) → y.2.2 = fldN i.toNat ps x y.1.toNat → y.2.1 = (↑(i.toNat / (2 : Nat) ^ y.1.toNat) : Int) → (decide (y.1 < (↑ps.length : Int)) = true → (0 : Int) ≤ y.2.1 ∧ (0 : Int) < (2 : Int) ∧ (decide (y.2.1 % (2 : Int) = (0 : Int)) = true → (0 : Int) ≤ y.1 ∧ y.1 < (↑ps.length : Int) ∧ y.1.toNat < ps.length ∧ y.1.toNat < ps.length ∧ (∀ (j : Nat), (0 : Int) ≤ y.2.2.getD j (0 : Int) ∧ y.2.2.getD j (0 : Int) < (256 : Int)) ∧ (∀ (j : Nat), (0 : Int) ≤ (ps.getD y.1.toNat (List.replicate (32 : Nat) (0 : Int))).getD j (0 : Int) ∧ (ps.getD y.1.toNat (List.replicate (32 : Nat) (0 : Int))).getD j (0 : Int) < (256 : Int)) ∧ ∀ (y_1 : Unit), (shaF ([(1 : Int)] ++ y.2.2 ++ ps.getD y.1.toNat (List.replicate (32 : Nat) (0 : Int)))).length = (32 : Nat) → (shaF ([(1 : Int)] ++ y.2.2 ++ ps.getD y.1.toNat (List.replicate (32 : Nat) (0 : Int)))).length = (32 : Nat) → (0 : Int) ≤ y.2.1 ∧ y.2.1 ≤ (9223372036854775807 : Int) ∧ (0 : Int) < (2 : Int) ∧ (-9223372036854775808 : Int) ≤ y.1 + (1 : Int) ∧ y.1 + (1 : Int) ≤ (9223372036854775807 : Int) ∧ ∃ (y_2 : Int × Int × List Int), y.1 + (1 : Int) = y_2.1 ∧ y.2.1 / (2 : Int) = y_2.2.1 ∧ List.replicate (32 : Nat) (0 : Int) = List.replicate (32 : Nat) (0 : Int) ∧ (32 : Nat) = (32 : Nat) ∧ shaF ([(1 : Int)] ++ y.2.2 ++ ps.getD y.1.toNat (List.replicate (32 : Nat) (0 : Int))) = y_2.2.2 ∧ (32 : Nat) = (32 : Nat) ∧ (0 : Int) ≤ y_2.1 ∧ y_2.1 ≤ (↑ps.length : Int) ∧ y_2.2.2 = fldN i.toNat ps x y_2.1.toNat ∧ y_2.2.1 = (↑(i.toNat / (2 : Nat) ^ y_2.1.toNat) : Int) ∧ ((↑ps.length : Int) - y_2.1).toNat < ((↑ps.length : Int) - y.1).toNat) ∧ (decide (y.2.1 % (2 : Int) = (0 : Int)) = false → (0 : Int) ≤ y.1 ∧ y.1 < (↑ps.length : Int) ∧ y.1.toNat < ps.length ∧ y.1.toNat < ps.length ∧ (∀ (j : Nat), (0 : Int) ≤ (ps.getD y.1.toNat (List.replicate (32 : Nat) (0 : Int))).getD j (0 : Int) ∧ (ps.getD y.1.toNat (List.replicate (32 : Nat) (0 : Int))).getD j (0 : Int) < (256 : Int)) ∧ (∀ (j : Nat), (0 : Int) ≤ y.2.2.getD j (0 : Int) ∧ y.2.2.getD j (0 : Int) < (256 : Int)) ∧ ∀ (y_1 : Unit), (shaF ([(1 : Int)] ++ ps.getD y.1.toNat (List.replicate (32 : Nat) (0 : Int)) ++ y.2.2)).length = (32 : Nat) → (shaF ([(1 : Int)] ++ ps.getD y.1.toNat (List.replicate (32 : Nat) (0 : Int)) ++ y.2.2)).length = (32 : Nat) → (0 : Int) ≤ y.2.1 ∧ y.2.1 ≤ (9223372036854775807 : Int) ∧ (0 : Int) < (2 : Int) ∧ (-9223372036854775808 : Int) ≤ y.1 + (1 : Int) ∧ y.1 + (1 : Int) ≤ (9223372036854775807 : Int) ∧ ∃ (y_2 : Int × Int × List Int), y.1 + (1 : Int) = y_2.1 ∧ y.2.1 / (2 : Int) = y_2.2.1 ∧ List.replicate (32 : Nat) (0 : Int) = List.replicate (32 : Nat) (0 : Int) ∧ (32 : Nat) = (32 : Nat) ∧ shaF ([(1 : Int)] ++ ps.getD y.1.toNat (List.replicate (32 : Nat) (0 : Int)) ++ y.2.2) = y_2.2.2 ∧ (32 : Nat) = (32 : Nat) ∧ (0 : Int) ≤ y_2.1 ∧ y_2.1 ≤ (↑ps.length : Int) ∧ y_2.2.2 = fldN i.toNat ps x y_2.1.toNat ∧ y_2.2.1 = (↑(i.toNat / (2 : Nat) ^ y_2.1.toNat) : Int) ∧ ((↑ps.length : Int) - y_2.1).toNat < ((↑ps.length : Int) - y.1).toNat)) ∧ (decide (y.1 < (↑ps.length : Int)) = false → ∃ (y_1 : Unit), y.2.2 = fldH i x ps ∧ (32 : Nat) = (32 : Nat) ∧ (0 : Int) = fldE i ps.length ∧ (fldH i x ps).length = (32 : Nat)))) (by kernel_rfl) ?_⟩
  simp only [imin, imax, decide_eq_true_eq, decide_eq_false_iff_not, Prod.forall, Prod.exists, exists_eq_left', exists_eq_left, exists_and_left, exists_and_right, exists_eq_right, exists_eq, exists_eq', true_and, and_true, forall_const, exists_const, eq_self, Bool.not_eq_true, Bool.not_eq_eq_eq_not, Bool.not_true, Bool.not_false, Value.slice.injEq, Option.getD_some]
  intro hx hps h1 h2
  have hlen := fldH_length (i := i) (ps := ps) hx
  have hw : ps.length ≤ 16 → shlV .i64 1 (IntKind.u64.wrap (ps.length : Int)) = 2 ^ ps.length := fun h => by rw [wu64 (by omega) (by omega), shl1 (by omega) (by omega), Int.toNat_natCast]
  have key : ((decide ((16 : Int) < (ps.length : Int)) || decide (i < 0) || decide (shlV .i64 1 (IntKind.u64.wrap (ps.length : Int)) ≤ i)) = true) ↔ ¬ fldOk i ps.length := by
    simp only [Bool.or_eq_true, decide_eq_true_eq]
    constructor
    · intro h ho
      have h16 := ho.1
      rw [hw h16] at h
      have := ho.2.2
      have := ho.2.1
      omega
    · intro hn
      by_cases a : ps.length ≤ 16
      · rw [hw a]
        by_cases b : i < 0
        · exact .inl (.inr b)
        · exact .inr (Int.not_lt.1 fun c => hn ⟨a, by omega, c⟩)
      · exact .inl (.inl (by omega))
  refine ⟨fun _ => wrap_nn _, fun h => ?_, fun h => ?_⟩
  · have hn := key.1 h
    exact ⟨by rw [fldH, if_neg hn], by rw [fldE, if_neg hn], hlen⟩
  · have ho : fldOk i ps.length := Decidable.byContradiction fun hn => by rw [key.2 hn] at h; cases h
    have h16 := pow16 ho.1
    obtain ⟨o1, o2, o3⟩ := ho
    refine ⟨⟨by omega, by omega, rfl, by rw [Int.toNat_zero, Nat.pow_zero, Nat.div_one]; omega⟩, fun k j v hv h3 h4 h5 h6 => ⟨fun h7 => ?_, fun h7 => ?_⟩⟩
    · have hd : i.toNat / 2 ^ (k + 1).toNat = i.toNat / 2 ^ k.toNat / 2 := by rw [show (k + 1).toNat = k.toNat + 1 by omega, Nat.pow_succ, Nat.div_div_eq_div_mul]
      have hrv : rg v := by rw [h5]; exact rg_fldN h1 _
      have hrp : rg (ps.getD k.toNat (List.replicate 32 0)) := rg_getD h2 _ _ (rg_z 32)
      have e0 : fldN i.toNat ps x (k + 1).toNat = if (i.toNat / 2 ^ k.toNat) % 2 = 0 then pr2 v (ps.getD k.toNat (List.replicate 32 0)) else pr2 (ps.getD k.toNat (List.replicate 32 0)) v := by rw [show (k + 1).toNat = k.toNat + 1 by omega, fldN, ← h5]
      have hm := Nat.div_le_self i.toNat (2 ^ k.toNat)
      rw [hd, e0]
      clear h5 hd
      generalize i.toNat / 2 ^ k.toNat = m at h6 e0 hm ⊢
      subst h6
      refine ⟨by omega, by omega, fun h8 => ⟨h3, by omega, by omega, by omega, hrv, hrp, fun _ _ => ⟨by omega, by omega, by omega, by omega, by omega, by omega, by omega, by rw [if_pos (by omega), pr2], by omega, by omega⟩⟩, fun h8 => ⟨h3, by omega, by omega, by omega, hrp, hrv, fun _ _ => ⟨by omega, by omega, by omega, by omega, by omega, by omega, by omega, by rw [if_neg (by omega), pr2], by omega, by omega⟩⟩⟩
    · have ho : fldOk i ps.length := ⟨o1, o2, o3⟩
      exact ⟨by rw [fldH, if_pos ho, h5, show k.toNat = ps.length by omega], by rw [fldE, if_pos ho], hlen⟩
noncomputable def con_rfold : Con Xp.P FMp := ⟨31, sg_rfold, pr_rfold, ps_rfold, vc_ok (La := la_rfold) (Ca := ca_rfold) 300 (fn := Go.Proofs.Try.f31) (by kernel_rfl) (c := cd_rfold) (by kernel_rfl) (by kernel_rfl) (by kernel_rfl) (by kernel_rfl) (fun ⟨i, ⟨⟨x, ⟨⟩⟩, ⟨⟨A, ⟨ps, c⟩⟩, ⟨⟩⟩⟩⟩ => vc_rfold i x A ps c)⟩

end Go.Pw
