/-
  Walks by computing. No condition.
-/
import Derived.Test.YtogpbbgcdeiplaaBr1
set_option linter.all false
set_option maxRecDepth 100000
set_option maxHeartbeats 1000000
namespace Go.Pw
open Go Go.Px Go.RowKit

noncomputable def cd_anch21 : Code := (Go.Proofs.Try.f13.body).getD .skip
def sg_anch21 : List Arg := []
def pr_anch21 : SgT FMp sg_anch21 → List Prop
  | () => ([] : List Prop)
def ps_anch21 : SgT FMp sg_anch21 → PS FMp
  | () => (⟨Unit, fun y => [], fun y => one (.bool (true)), fun y => [], fun y => []⟩ : PS FMp)
def la_anch21 : SgT FMp sg_anch21 → List (Nat × (SS FMp → HA FMp))
  | () => ([] : List (Nat × (SS FMp → HA FMp)))
def ca_anch21 : SgT FMp sg_anch21 → List (Nat × (SS FMp → HA FMp))
  | () => ([] : List (Nat × (SS FMp → HA FMp)))
theorem vc_anch21  : Vc (vc (FM := FMp) Xp 59 [con_bdeposit, con_bmay_] (la_anch21 ()) (ca_anch21 ()) [] [] [.tmp 0] sg_anch21 pr_anch21 ps_anch21 cd_anch21 3000 ()) := by
  refine ⟨Eq.mpr (β := (@Eq (Option Addr) none none → @Eq (List Dly) [] []) ∧ (@Eq (Option Addr) none none → @Eq (List Bys) [] []) ∧ (0 : Int) ≤ (4 : Int) ∧ (4 : Int) < (18446744073709551616 : Int) ∧ (0 : Int) ≤ (0 : Int) ∧ (0 : Int) ≤ (0 : Int) ∧ r64 ((List.replicate (16 : Nat) (0 : Int)).set (0 : Nat) (9 : Int)) ∧ ∀ (y : Int × Int × List Bool × List Int × Option Addr × Nat × List Dly × Option Addr × Nat × List Bys × Int × Int × Int), y.snd.2.1.length = (32 : Nat) → (∀ (a : Bool), a ∈ y.snd.2.1 → True) → y.snd.snd.2.1.length = (16 : Nat) → y.snd.snd.snd.snd.snd.2.1.length = y.snd.snd.snd.snd.snd.2.1.length → (∀ (a : Int × Option Addr × List Int × Nat), a ∈ y.snd.snd.snd.snd.snd.2.1 → True) → y.snd.snd.snd.snd.snd.snd.snd.snd.2.1.length = y.snd.snd.snd.snd.snd.snd.snd.snd.2.1.length → (∀ (a : Option Addr × List Int × Nat), a ∈ y.snd.snd.snd.snd.snd.snd.snd.snd.2.1 → True) → bdRes (0 : Int) (0 : Int) (List.replicate (32 : Nat) false) ((List.replicate (16 : Nat) (0 : Int)).set (0 : Nat) (9 : Int)) [] (0 : Int) [] (0 : Int) (3 : Int) (0 : Int) (5 : Int) (4 : Int) y.1 y.2.1 y.snd.2.1 y.snd.snd.2.1 y.snd.snd.snd.snd.snd.2.1 y.snd.snd.snd.snd.snd.snd.snd.snd.snd.2.1 y.snd.snd.snd.snd.snd.snd.snd.snd.2.1 y.snd.snd.snd.snd.snd.snd.snd.snd.snd.snd.2.1 y.snd.snd.snd.snd.snd.snd.snd.snd.snd.snd.2.2 → y.snd.snd.2.1.length = (16 : Nat) → y.snd.2.1.length = (32 : Nat) → ∀ (b b b : Nat), (@Eq (Option Addr) none none → @Eq (List Dly) [] []) ∧ (@Eq (Option Addr) none none → @Eq (List Bys) [] []) ∧ (0 : Int) ≤ (10 : Int) ∧ (10 : Int) < (18446744073709551616 : Int) ∧ (0 : Int) ≤ (0 : Int) ∧ (0 : Int) ≤ (0 : Int) ∧ r64 ((List.replicate (16 : Nat) (0 : Int)).set (0 : Nat) (9 : Int)) ∧ ∀ (y_1 : Int × Int × List Bool × List Int × Option Addr × Nat × List Dly × Option Addr × Nat × List Bys × Int × Int × Int), y_1.snd.2.1.length = (32 : Nat) → (∀ (a : Bool), a ∈ y_1.snd.2.1 → True) → y_1.snd.snd.2.1.length = (16 : Nat) → y_1.snd.snd.snd.snd.snd.2.1.length = y_1.snd.snd.snd.snd.snd.2.1.length → (∀ (a : Int × Option Addr × List Int × Nat), a ∈ y_1.snd.snd.snd.snd.snd.2.1 → True) → y_1.snd.snd.snd.snd.snd.snd.snd.snd.2.1.length = y_1.snd.snd.snd.snd.snd.snd.snd.snd.2.1.length → (∀ (a : Option Addr × List Int × Nat), a ∈ y_1.snd.snd.snd.snd.snd.snd.snd.snd.2.1 → True) → bdRes (0 : Int) (0 : Int) (List.replicate (32 : Nat) false) ((List.replicate (16 : Nat) (0 : Int)).set (0 : Nat) (9 : Int)) [] (0 : Int) [] (0 : Int) (3 : Int) (0 : Int) (5 : Int) (10 : Int) y_1.1 y_1.2.1 y_1.snd.2.1 y_1.snd.snd.2.1 y_1.snd.snd.snd.snd.snd.2.1 y_1.snd.snd.snd.snd.snd.snd.snd.snd.snd.2.1 y_1.snd.snd.snd.snd.snd.snd.snd.snd.2.1 y_1.snd.snd.snd.snd.snd.snd.snd.snd.snd.snd.2.1 y_1.snd.snd.snd.snd.snd.snd.snd.snd.snd.snd.2.2 → y_1.snd.snd.2.1.length = (16 : Nat) → y_1.snd.2.1.length = (32 : Nat) → ∀ (b b b : Nat), ((decide (y.snd.snd.snd.snd.snd.snd.snd.snd.snd.snd.2.2 = (0 : Int)) && decide (y_1.snd.snd.snd.snd.snd.snd.snd.snd.snd.snd.2.2 = (190 : Int)) && decide (y.1 = (4 : Int)) && decide (y.snd.snd.2.1.getD (0 : Nat) (0 : Int) = (5 : Int)) && decide (y.snd.snd.2.1.getD (14 : Nat) (0 : Int) = (4 : Int)) && decide ((↑y.snd.snd.snd.snd.snd.2.1.length : Int) = (1 : Int))) = true → r64 y.snd.snd.2.1 ∧ ∀ (y_2 : Unit), ∃ (y_3 : Unit), bmay y.snd.snd.2.1 y.1 y.2.1 = true) ∧ ((decide (y.snd.snd.snd.snd.snd.snd.snd.snd.snd.snd.2.2 = (0 : Int)) && decide (y_1.snd.snd.snd.snd.snd.snd.snd.snd.snd.snd.2.2 = (190 : Int)) && decide (y.1 = (4 : Int)) && decide (y.snd.snd.2.1.getD (0 : Nat) (0 : Int) = (5 : Int)) && decide (y.snd.snd.2.1.getD (14 : Nat) (0 : Int) = (4 : Int)) && decide ((↑y.snd.snd.snd.snd.snd.2.1.length : Int) = (1 : Int))) = false → ∃ (y : Unit), false = true)) (by kernel_rfl) ?_⟩
  simp only [imin, imax, decide_eq_true_eq, decide_eq_false_iff_not, Prod.forall, Prod.exists, exists_eq_left', exists_eq_left, exists_and_left, exists_and_right, exists_eq_right, exists_eq, exists_eq', true_and, and_true, forall_const, exists_const, eq_self, Bool.not_eq_true, Bool.not_eq_eq_eq_not, Bool.not_true, Bool.not_false, Value.slice.injEq, Option.getD_some, imp_self, implies_true, Option.some.injEq, Addr.mk.injEq, true_or, or_true, List.length_cons, List.length_nil, Nat.zero_add, Nat.reduceAdd]
  have hP : (List.replicate 16 (0 : Int)).set 0 9 = [9, 0, 0, 0, 0, 0, 0, 0, 0, 0, 0, 0, 0, 0, 0, 0] := rfl
  rw [hP]
  generalize hPe : [(9 : Int), 0, 0, 0, 0, 0, 0, 0, 0, 0, 0, 0, 0, 0, 0, 0] = P
  have rP : r64 P := by rw [← hPe]; exact get_of_mem (p := fun x => 0 ≤ x ∧ x < 18446744073709551616) (by omega) (by simp)
  have hm : bmay P 0 0 = true := by rw [← hPe]; kernel_rfl
  have h0 : P.getD 0 0 = 9 := by rw [← hPe]; rfl
  have hp : payE P 0 14 4 = 0 := by rw [← hPe]; kernel_rfl
  have hq : payP P 0 14 4 = [5, 0, 0, 0, 0, 0, 0, 0, 0, 0, 0, 0, 0, 0, 4, 0] := by rw [← hPe]; kernel_rfl
  have hm2 : bmay [5, 0, 0, 0, 0, 0, 0, 0, 0, 0, 0, 0, 0, 0, 4, 0] 4 0 = true := by kernel_rfl
  have hd : depE 5 4 = 0 := by kernel_rfl
  have hs : sinB [] 0 [] 3 := ⟨⟨by simp, by simp, by omega, by simp, fun j hj => by simp at hj, fun j hj => by simp at hj⟩, by omega, .inl rfl⟩
  have E1 : bdE 0 0 P [] 0 [] 3 0 5 4 = 0 := by
    rw [bdE4 ⟨hm, by omega, by omega⟩ (by rw [show (0 : Int).toNat = 0 from rfl, h0]; omega) ⟨hd, hs⟩, if_neg (by simp), if_neg (by omega)]
    exact hp
  have E2 : bdE 0 0 P [] 0 [] 3 0 5 10 = 190 := bdE2 ⟨hm, by omega, by omega⟩ (by rw [show (0 : Int).toNat = 0 from rfl, h0]; omega)
  refine ⟨by omega, by omega, by omega, by omega, rP, fun i' o' sp' p' A' q x B' r y t' n' ee hl1 hl2 hb _ _ => ⟨by omega, by omega, by omega, by omega, rP, fun i2 o2 sp2 p2 A2 q2 x2 B2 r2 y2 t2 n2 ee2 hl3 hl4 hb2 _ _ => ?_⟩⟩
  obtain ⟨he, hb⟩ := hb
  rw [E1] at he
  obtain ⟨he2, -⟩ := hb2
  rw [E2] at he2
  rcases hb with ⟨-, h1, h2, -, h4, h5⟩ | ⟨h1, -⟩
  · rw [hq] at h4
    have hx : x.length = 1 := by
      rcases h5 with h5 | h5
      · exact h5.2.2.2.2.1
      · exact absurd h5.1 (by simp)
    have hi : i' = 4 := by omega
    subst he he2 h2 h4 hi
    have e5 : [(5 : Int), 0, 0, 0, 0, 0, 0, 0, 0, 0, 0, 0, 0, 0, 4, 0].getD 0 0 = 5 := rfl
    have e4 : [(5 : Int), 0, 0, 0, 0, 0, 0, 0, 0, 0, 0, 0, 0, 0, 4, 0].getD 14 0 = 4 := rfl
    have rQ : r64 [5, 0, 0, 0, 0, 0, 0, 0, 0, 0, 0, 0, 0, 0, 4, 0] := get_of_mem (p := fun x => 0 ≤ x ∧ x < 18446744073709551616) (by omega) (by simp)
    refine ⟨fun _ => ⟨rQ, hm2⟩, fun h => ?_⟩
    simp [e5, e4, hx] at h
  · exact absurd he h1
noncomputable def con_anch21 : Con Xp.P FMp := ⟨13, sg_anch21, pr_anch21, ps_anch21, vc_ok (La := la_anch21) (Ca := ca_anch21) 3000 (fn := Go.Proofs.Try.f13) (by kernel_rfl) (c := cd_anch21) (by kernel_rfl) (by kernel_rfl) (by kernel_rfl) (by kernel_rfl) (fun ⟨⟩ => vc_anch21 )⟩

end Go.Pw
