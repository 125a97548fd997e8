/-
  Walks by computing. No condition.
-/
import Derived.Test.YtogpbbgcdeiplaaIn1
set_option linter.all false
set_option maxRecDepth 100000
set_option maxHeartbeats 1000000
namespace Go.Pw
open Go Go.Px Go.RowKit

noncomputable def cd_isince : Code := (Go.Proofs.Try.f84.body).getD .skip
def sg_isince : List Arg := [.ag [.slr 6, .int .i64, .slr 4, .int .u64], .one (.int .i64)]
def pr_isince : SgT FMp sg_isince → List Prop
  | (((A, (qs, c)), (t, ((B, (ls, e)), (n, ())))), (bk, ())) => (fun (A : Option Addr) (qs : List Dly) (c : Nat) (t : Int) (B : Option Addr) (ls : List Bys) (e : Nat) (n : Int) (bk : Int) => ([] : List Prop)) A qs c t B ls e n bk
def ps_isince : SgT FMp sg_isince → PS FMp
  | (((A, (qs, c)), (t, ((B, (ls, e)), (n, ())))), (bk, ())) => (fun (A : Option Addr) (qs : List Dly) (c : Nat) (t : Int) (B : Option Addr) (ls : List Bys) (e : Nat) (n : Int) (bk : Int) => (⟨Bool, fun y => [], fun y => one (.bool (y)), fun y => [], fun y => [y = true ↔ inbOk qs t ls ∧ 0 ≤ bk ∧ (qs.length = 0 ∨ blkB qs qs.length ≤ bk)]⟩ : PS FMp)) A qs c t B ls e n bk
def la_isince : SgT FMp sg_isince → List (Nat × (SS FMp → HA FMp))
  | (((A, (qs, c)), (t, ((B, (ls, e)), (n, ())))), (bk, ())) => (fun (A : Option Addr) (qs : List Dly) (c : Nat) (t : Int) (B : Option Addr) (ls : List Bys) (e : Nat) (n : Int) (bk : Int) => ([] : List (Nat × (SS FMp → HA FMp)))) A qs c t B ls e n bk
def ca_isince : SgT FMp sg_isince → List (Nat × (SS FMp → HA FMp))
  | (((A, (qs, c)), (t, ((B, (ls, e)), (n, ())))), (bk, ())) => (fun (A : Option Addr) (qs : List Dly) (c : Nat) (t : Int) (B : Option Addr) (ls : List Bys) (e : Nat) (n : Int) (bk : Int) => ([] : List (Nat × (SS FMp → HA FMp)))) A qs c t B ls e n bk
theorem vc_isince (A : Option Addr) (qs : List Dly) (c : Nat) (t : Int) (B : Option Addr) (ls : List Bys) (e : Nat) (n : Int) (bk : Int) : Vc (vc (FM := FMp) Xp 30 [con_imay] (la_isince (((A, (qs, c)), (t, ((B, (ls, e)), (n, ())))), (bk, ()))) (ca_isince (((A, (qs, c)), (t, ((B, (ls, e)), (n, ())))), (bk, ()))) [] [] [.tmp 4] sg_isince pr_isince ps_isince cd_isince 300 (((A, (qs, c)), (t, ((B, (ls, e)), (n, ())))), (bk, ()))) := by
  refine ⟨Eq.mpr (β := (∀ (a : Int × Option Addr × List Int × Nat), a ∈ qs → True) → (∀ (a : Option Addr × List Int × Nat), a ∈ ls → True) → ∀ (b : Nat), qs.length = qs.length ∧ ls.length = ls.length ∧ ∀ (y : Bool), (y = true ↔ inbOk qs t ls) → ((y && decide ((0 : Int) ≤ bk)) = true → decide ((↑qs.length : Int) = (0 : Int)) = false → (-9223372036854775808 : Int) ≤ (↑qs.length : Int) - (1 : Int) ∧ (↑qs.length : Int) - (1 : Int) ≤ (9223372036854775807 : Int) ∧ (0 : Int) ≤ (↑qs.length : Int) - (1 : Int) ∧ (↑qs.length : Int) - (1 : Int) < (↑qs.length : Int) ∧ (fun (p : Prop) => p ∧ p) (((↑qs.length : Int) - (1 : Int)).toNat < qs.length)) ∧ ∃ (y_1 : Bool), (y && decide ((0 : Int) ≤ bk) && (decide ((↑qs.length : Int) = (0 : Int)) || decide ((qs.getD ((↑qs.length : Int) - (1 : Int)).toNat ((0, (none, [], 0)) : Int × (Option Addr × List Int × Nat))).1 ≤ bk))) = y_1 ∧ (y_1 = true ↔ inbOk qs t ls ∧ (0 : Int) ≤ bk ∧ (qs.length = (0 : Nat) ∨ blkB qs qs.length ≤ bk))) (by kernel_rfl) ?_⟩
  simp only [imin, imax, decide_eq_true_eq, decide_eq_false_iff_not, Prod.forall, Prod.exists, exists_eq_left', exists_eq_left, exists_and_left, exists_and_right, exists_eq_right, exists_eq, exists_eq', true_and, and_true, forall_const, exists_const, eq_self, Bool.not_eq_true, Bool.not_eq_eq_eq_not, Bool.not_true, Bool.not_false, Value.slice.injEq, Option.getD_some, imp_self, implies_true, Option.some.injEq, Addr.mk.injEq, true_or, or_true, List.length_cons, List.length_nil, Nat.zero_add, Nat.reduceAdd]
  intro y hy
  refine ⟨fun h hz => ?_, ?_⟩
  · simp only [Bool.and_eq_true, decide_eq_true_eq] at h
    have := (hy.1 h.1).1
    omega
  · have hb : qs.length ≠ 0 → (qs.getD ((qs.length : Int) - 1).toNat (0, none, [], 0)).1 = blkB qs qs.length := fun hn => by
      obtain ⟨m, hm⟩ : ∃ m, qs.length = m + 1 := ⟨qs.length - 1, by omega⟩
      rw [hm, show (((m + 1 : Nat) : Int) - 1).toNat = m by omega]
      rfl
    simp only [Bool.and_eq_true, Bool.or_eq_true, decide_eq_true_eq]
    constructor
    · rintro ⟨⟨h1, h2⟩, h3⟩
      refine ⟨hy.1 h1, h2, ?_⟩
      by_cases hz : qs.length = 0
      · exact .inl hz
      · rcases h3 with h3 | h3
        · omega
        · rw [hb hz] at h3; exact .inr h3
    · rintro ⟨h1, h2, h3⟩
      refine ⟨⟨hy.2 h1, h2⟩, ?_⟩
      by_cases hz : qs.length = 0
      · exact .inl (by omega)
      · rcases h3 with h3 | h3
        · omega
        · exact .inr (by rw [hb hz]; exact h3)
noncomputable def con_isince : Con Xp.P FMp := ⟨84, sg_isince, pr_isince, ps_isince, vc_ok (La := la_isince) (Ca := ca_isince) 300 (fn := Go.Proofs.Try.f84) (by kernel_rfl) (c := cd_isince) (by kernel_rfl) (by kernel_rfl) (by kernel_rfl) (by kernel_rfl) (fun ⟨⟨⟨A, ⟨qs, c⟩⟩, ⟨t, ⟨⟨B, ⟨ls, e⟩⟩, ⟨n, ⟨⟩⟩⟩⟩⟩, ⟨bk, ⟨⟩⟩⟩ => vc_isince A qs c t B ls e n bk)⟩

end Go.Pw
