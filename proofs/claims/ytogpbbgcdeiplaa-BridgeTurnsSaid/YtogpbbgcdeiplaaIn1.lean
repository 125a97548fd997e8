/-
  Walks by computing. No condition.
-/
import Derived.Test.YtogpbbgcdeiplaaLe1
set_option linter.all false
set_option maxRecDepth 100000
set_option maxHeartbeats 1000000
namespace Go.Pw
open Go Go.Px Go.RowKit

abbrev Dly := Int × Option Addr × List Int × Nat
abbrev Bys := Option Addr × List Int × Nat
def blkB (qs : List Dly) : Nat → Int
  | 0 => 0
  | j + 1 => (qs.getD j (0, none, [], 0)).1
def qOkN (qs : List Dly) (k : Nat) : Prop := ∀ j, j < k → blkB qs j ≤ (qs.getD j (0, none, [], 0)).1 ∧ (qs.getD j (0, none, [], 0)).2.2.1.length ≤ 65536
def lOkN (ls : List Bys) (k : Nat) : Prop := ∀ j, j < k → (ls.getD j (none, [], 0)).2.1.length ≤ 65536
def inbOk (qs : List Dly) (t : Int) (ls : List Bys) : Prop := qs.length ≤ 4096 ∧ ls.length ≤ 4096 ∧ 0 ≤ t ∧ t ≤ qs.length ∧ qOkN qs qs.length ∧ lOkN ls ls.length
def bmay (p : List Int) (i o : Int) : Bool := decide (totE p = 0) && decide (o ≤ i) && decide (i ≤ 4611686018427387904) && decide (p.getD 14 0 = IntKind.u64.wrap (i - o))

theorem BYu : Go.Proofs.Try.prog.types[5].bytes = 1 := by kernel_rfl
noncomputable def cd_ishort : Code := (Go.Proofs.Try.f126.body).getD .skip
def sg_ishort : List Arg := [.one (.sli .u8)]
def pr_ishort : SgT FMp sg_ishort → List Prop
  | ((A, (b, c)), ()) => (fun (A : Option Addr) (b : List Int) (c : Nat) => ([] : List Prop)) A b c
def ps_ishort : SgT FMp sg_ishort → PS FMp
  | ((A, (b, c)), ()) => (fun (A : Option Addr) (b : List Int) (c : Nat) => (⟨Unit, fun y => [], fun y => one (.bool (decide (b.length ≤ 65536))), fun y => [], fun y => []⟩ : PS FMp)) A b c
def la_ishort : SgT FMp sg_ishort → List (Nat × (SS FMp → HA FMp))
  | ((A, (b, c)), ()) => (fun (A : Option Addr) (b : List Int) (c : Nat) => ([] : List (Nat × (SS FMp → HA FMp)))) A b c
def ca_ishort : SgT FMp sg_ishort → List (Nat × (SS FMp → HA FMp))
  | ((A, (b, c)), ()) => (fun (A : Option Addr) (b : List Int) (c : Nat) => ([] : List (Nat × (SS FMp → HA FMp)))) A b c
theorem vc_ishort (A : Option Addr) (b : List Int) (c : Nat) : Vc (vc (FM := FMp) Xp 6 [] (la_ishort ((A, (b, c)), ())) (ca_ishort ((A, (b, c)), ())) [] [] [.tmp 2] sg_ishort pr_ishort ps_ishort cd_ishort 300 ((A, (b, c)), ())) := by
  refine ⟨Eq.mpr (β := (A.isNone = true → b = []) → ∃ (y : Unit), decide ((↑b.length : Int) ≤ (65536 : Int)) = decide (b.length ≤ (65536 : Nat))) (by kernel_rfl) ?_⟩
  simp only [imin, imax, decide_eq_true_eq, decide_eq_false_iff_not, Prod.forall, Prod.exists, exists_eq_left', exists_eq_left, exists_and_left, exists_and_right, exists_eq_right, exists_eq, exists_eq', true_and, and_true, forall_const, exists_const, eq_self, Bool.not_eq_true, Bool.not_eq_eq_eq_not, Bool.not_true, Bool.not_false, Value.slice.injEq, Option.getD_some, imp_self, implies_true, Option.some.injEq, Addr.mk.injEq, true_or, or_true, List.length_cons, List.length_nil, Nat.zero_add, Nat.reduceAdd]
  intro _
  rw [decide_eq_decide]
  omega
noncomputable def con_ishort : Con Xp.P FMp := ⟨126, sg_ishort, pr_ishort, ps_ishort, vc_ok (La := la_ishort) (Ca := ca_ishort) 300 (fn := Go.Proofs.Try.f126) (by kernel_rfl) (c := cd_ishort) (by kernel_rfl) (by kernel_rfl) (by kernel_rfl) (by kernel_rfl) (fun ⟨⟨A, ⟨b, c⟩⟩, ⟨⟩⟩ => vc_ishort A b c)⟩
noncomputable def cd_bclone : Code := (Go.Proofs.Try.f109.body).getD .skip
def sg_bclone : List Arg := [.one (.sli .u8)]
def pr_bclone : SgT FMp sg_bclone → List Prop
  | ((A, (b, c)), ()) => (fun (A : Option Addr) (b : List Int) (c : Nat) => ([b.length ≤ 140737488355000] : List Prop)) A b c
def ps_bclone : SgT FMp sg_bclone → PS FMp
  | ((A, (b, c)), ()) => (fun (A : Option Addr) (b : List Int) (c : Nat) => (⟨(Option Addr) × Nat, fun y => [.ad y.1], fun y => .v (.one (.sc 0 0 (b.length) y.2 false)), fun y => [.sl 0 (b.length) y.2 (zz .u8 (b) (b.length)) 5 1], fun y => [(b).length ≤ y.2]⟩ : PS FMp)) A b c
def la_bclone : SgT FMp sg_bclone → List (Nat × (SS FMp → HA FMp))
  | ((A, (b, c)), ()) => (fun (A : Option Addr) (b : List Int) (c : Nat) => ([] : List (Nat × (SS FMp → HA FMp)))) A b c
def ca_bclone : SgT FMp sg_bclone → List (Nat × (SS FMp → HA FMp))
  | ((A, (b, c)), ()) => (fun (A : Option Addr) (b : List Int) (c : Nat) => ([] : List (Nat × (SS FMp → HA FMp)))) A b c
theorem vc_bclone (A : Option Addr) (b : List Int) (c : Nat) : Vc (vc (FM := FMp) Xp 8 [] (la_bclone ((A, (b, c)), ())) (ca_bclone ((A, (b, c)), ())) [] [] [.tmp 2] sg_bclone pr_bclone ps_bclone cd_bclone 300 ((A, (b, c)), ())) := by
  refine ⟨Eq.mpr (β := (A.isNone = true → b = []) → b.length ≤ (140737488355000 : Nat) → (A.isNone = true → ∃ (y : Option Addr × Nat), Value.slice none (0 : Nat) (0 : Nat) = Value.slice y.1 b.length y.2 ∧ y.1 = none ∧ b.length = (0 : Nat) ∧ y.2 = (0 : Nat) ∧ b = [] ∧ b.length = (0 : Nat) ∧ b.length ≤ y.2) ∧ (A.isNone = false → ∀ (b_1 : Nat), (0 : Nat) = (0 : Nat) ∧ (0 : Nat) = (0 : Nat) ∧ b.length = b.length ∧ ((0 : Nat) + b.length) * Proofs.Try.prog.types[(5 : Nat)].bytes ≤ (140737488355328 : Nat) ∧ ∀ (A : Option Addr) (q : Nat), (0 : Nat) + b.length ≤ q → ∃ (y : Option Addr × Nat), A = y.1 ∧ (0 : Nat) + b.length = b.length ∧ q = y.2 ∧ A = y.1 ∧ (0 : Nat) + b.length = b.length ∧ q = y.2 ∧ [] ++ b = b ∧ (0 : Nat) + b.length = b.length ∧ b.length ≤ y.2)) (by kernel_rfl) ?_⟩
  simp only [imin, imax, decide_eq_true_eq, decide_eq_false_iff_not, Prod.forall, Prod.exists, exists_eq_left', exists_eq_left, exists_and_left, exists_and_right, exists_eq_right, exists_eq, exists_eq', true_and, and_true, forall_const, exists_const, eq_self, Bool.not_eq_true, Bool.not_eq_eq_eq_not, Bool.not_true, Bool.not_false, Value.slice.injEq, Option.getD_some, imp_self, implies_true, Option.some.injEq, Addr.mk.injEq, true_or, or_true, List.length_cons, List.length_nil, Nat.zero_add, Nat.reduceAdd]
  intro hA hn
  refine ⟨fun h => ?_, fun h => ⟨by rw [BYu]; omega, fun q hq => ⟨rfl, hq⟩⟩⟩
  have := hA h
  subst this
  exact ⟨none, 0, ⟨rfl, rfl, rfl⟩, rfl, rfl, rfl, rfl, rfl, by simp⟩
noncomputable def con_bclone : Con Xp.P FMp := ⟨109, sg_bclone, pr_bclone, ps_bclone, vc_ok (La := la_bclone) (Ca := ca_bclone) 300 (fn := Go.Proofs.Try.f109) (by kernel_rfl) (c := cd_bclone) (by kernel_rfl) (by kernel_rfl) (by kernel_rfl) (by kernel_rfl) (fun ⟨⟨A, ⟨b, c⟩⟩, ⟨⟩⟩ => vc_bclone A b c)⟩
noncomputable def cd_imay : Code := (Go.Proofs.Try.f107.body).getD .skip
def sg_imay : List Arg := [.ag [.slr 6, .int .i64, .slr 4, .int .u64]]
def pr_imay : SgT FMp sg_imay → List Prop
  | (((A, (qs, c)), (t, ((B, (ls, e)), (n, ())))), ()) => (fun (A : Option Addr) (qs : List Dly) (c : Nat) (t : Int) (B : Option Addr) (ls : List Bys) (e : Nat) (n : Int) => ([] : List Prop)) A qs c t B ls e n
def ps_imay : SgT FMp sg_imay → PS FMp
  | (((A, (qs, c)), (t, ((B, (ls, e)), (n, ())))), ()) => (fun (A : Option Addr) (qs : List Dly) (c : Nat) (t : Int) (B : Option Addr) (ls : List Bys) (e : Nat) (n : Int) => (⟨Bool, fun y => [], fun y => one (.bool (y)), fun y => [], fun y => [y = true ↔ inbOk qs t ls]⟩ : PS FMp)) A qs c t B ls e n
def la_imay : SgT FMp sg_imay → List (Nat × (SS FMp → HA FMp))
  | (((A, (qs, c)), (t, ((B, (ls, e)), (n, ())))), ()) => (fun (A : Option Addr) (qs : List Dly) (c : Nat) (t : Int) (B : Option Addr) (ls : List Bys) (e : Nat) (n : Int) => ([(5, fun S => ⟨Int × Int, fun y => [], fun n y => [(32, some (one (.int .i64 (y.1)))), (3, some (one (.int .i64 (y.2))))], fun n y => S.m, fun y => [0 ≤ y.1, y.1 ≤ qs.length, y.2 = blkB qs y.1.toNat, qOkN qs y.1.toNat], fun y => (qs.length - y.1).toNat⟩), (14100002, fun S => ⟨Int, fun y => [], fun n y => [(8, some (one (.int .i64 (y))))], fun n y => S.m, fun y => [0 ≤ y, y ≤ ls.length, lOkN ls y.toNat], fun y => (ls.length - y).toNat⟩)] : List (Nat × (SS FMp → HA FMp)))) A qs c t B ls e n
def ca_imay : SgT FMp sg_imay → List (Nat × (SS FMp → HA FMp))
  | (((A, (qs, c)), (t, ((B, (ls, e)), (n, ())))), ()) => (fun (A : Option Addr) (qs : List Dly) (c : Nat) (t : Int) (B : Option Addr) (ls : List Bys) (e : Nat) (n : Int) => ([] : List (Nat × (SS FMp → HA FMp)))) A qs c t B ls e n
theorem vc_imay (A : Option Addr) (qs : List Dly) (c : Nat) (t : Int) (B : Option Addr) (ls : List Bys) (e : Nat) (n : Int) : Vc (vc (FM := FMp) Xp 53 [con_ishort] (la_imay (((A, (qs, c)), (t, ((B, (ls, e)), (n, ())))), ())) (ca_imay (((A, (qs, c)), (t, ((B, (ls, e)), (n, ())))), ())) [] [127, 140, 128] [.tmp 2] sg_imay pr_imay ps_imay cd_imay 300 (((A, (qs, c)), (t, ((B, (ls, e)), (n, ())))), ())) := by
  refine ⟨Eq.mpr (β := (∀ (a : Int × Option Addr × List Int × Nat), a ∈ qs → True) → (∀ (a : Option Addr × List Int × Nat), a ∈ ls → True) → ∀ (b : Nat), ((decide ((4096 : Int) < (↑qs.length : Int)) || decide ((4096 : Int) < (↑ls.length : Int)) || decide (t < (0 : Int)) || decide ((↑qs.length : Int) < t)) = true → ∃ (y : Bool), false = y ∧ (y = true ↔ inbOk qs t ls)) ∧ ((decide ((4096 : Int) < (↑qs.length : Int)) || decide ((4096 : Int) < (↑ls.length : Int)) || decide (t < (0 : Int)) || decide ((↑qs.length : Int) < t)) = false → (∃ (y : Int × Int), (0 : Int) = y.1 ∧ (0 : Int) = y.2 ∧ qs.length = qs.length ∧ c = c ∧ t = t ∧ ls.length = ls.length ∧ e = e ∧ n = n ∧ (0 : Int) ≤ y.1 ∧ y.1 ≤ (↑qs.length : Int) ∧ y.2 = blkB qs y.1.toNat ∧ qOkN qs y.1.toNat) ∧ ∀ (y : Int × Int), (0 : Int) ≤ y.1 → y.1 ≤ (↑qs.length : Int) → y.2 = blkB qs y.1.toNat → qOkN qs y.1.toNat → (decide (y.1 < (↑qs.length : Int)) = true → (0 : Int) ≤ y.1 ∧ y.1 < (↑qs.length : Int) ∧ y.1.toNat < qs.length ∧ y.1.toNat < qs.length ∧ ∀ (b : Nat), (decide ((qs.getD y.1.toNat ((0, (none, [], 0)) : Int × (Option Addr × List Int × Nat))).1 < y.2) = true → ∃ (y : Bool), false = y ∧ (y = true ↔ inbOk qs t ls)) ∧ (decide ((qs.getD y.1.toNat ((0, (none, [], 0)) : Int × (Option Addr × List Int × Nat))).1 < y.2) = false → (qs.getD y.1.toNat ((0, (none, [], 0)) : Int × (Option Addr × List Int × Nat))).snd.2.1.length = (qs.getD y.1.toNat ((0, (none, [], 0)) : Int × (Option Addr × List Int × Nat))).snd.2.1.length ∧ ∀ (y_1 : Unit), ((!decide ((qs.getD y.1.toNat ((0, (none, [], 0)) : Int × (Option Addr × List Int × Nat))).snd.2.1.length ≤ (65536 : Nat))) = true → ∃ (y : Bool), false = y ∧ (y = true ↔ inbOk qs t ls)) ∧ ((!decide ((qs.getD y.1.toNat ((0, (none, [], 0)) : Int × (Option Addr × List Int × Nat))).snd.2.1.length ≤ (65536 : Nat))) = false → (-9223372036854775808 : Int) ≤ y.1 + (1 : Int) ∧ y.1 + (1 : Int) ≤ (9223372036854775807 : Int) ∧ ∃ (y_2 : Int × Int), y.1 + (1 : Int) = y_2.1 ∧ (qs.getD y.1.toNat ((0, (none, [], 0)) : Int × (Option Addr × List Int × Nat))).1 = y_2.2 ∧ qs.length = qs.length ∧ c = c ∧ t = t ∧ ls.length = ls.length ∧ e = e ∧ n = n ∧ (0 : Int) ≤ y_2.1 ∧ y_2.1 ≤ (↑qs.length : Int) ∧ y_2.2 = blkB qs y_2.1.toNat ∧ qOkN qs y_2.1.toNat ∧ ((↑qs.length : Int) - y_2.1).toNat < ((↑qs.length : Int) - y.1).toNat))) ∧ (decide (y.1 < (↑qs.length : Int)) = false → (∃ (y : Int), (0 : Int) = y ∧ qs.length = qs.length ∧ c = c ∧ t = t ∧ ls.length = ls.length ∧ e = e ∧ n = n ∧ (0 : Int) ≤ y ∧ y ≤ (↑ls.length : Int) ∧ lOkN ls y.toNat) ∧ ∀ (y : Int), (0 : Int) ≤ y → y ≤ (↑ls.length : Int) → lOkN ls y.toNat → (decide (y < (↑ls.length : Int)) = true → (0 : Int) ≤ y ∧ y < (↑ls.length : Int) ∧ y.toNat < ls.length ∧ y.toNat < ls.length ∧ (ls.getD y.toNat (((none, [], 0)) : (Option Addr × List Int × Nat))).2.1.length = (ls.getD y.toNat (((none, [], 0)) : (Option Addr × List Int × Nat))).2.1.length ∧ ∀ (y_1 : Unit), ((!decide ((ls.getD y.toNat (((none, [], 0)) : (Option Addr × List Int × Nat))).2.1.length ≤ (65536 : Nat))) = true → ∃ (y_2 : Bool), (!decide ((0 : Int) ≤ y)) = y_2 ∧ (y_2 = true ↔ inbOk qs t ls)) ∧ ((!decide ((ls.getD y.toNat (((none, [], 0)) : (Option Addr × List Int × Nat))).2.1.length ≤ (65536 : Nat))) = false → (-9223372036854775808 : Int) ≤ y + (1 : Int) ∧ y + (1 : Int) ≤ (9223372036854775807 : Int) ∧ ∃ (y_2 : Int), y + (1 : Int) = y_2 ∧ qs.length = qs.length ∧ c = c ∧ t = t ∧ ls.length = ls.length ∧ e = e ∧ n = n ∧ (0 : Int) ≤ y_2 ∧ y_2 ≤ (↑ls.length : Int) ∧ lOkN ls y_2.toNat ∧ ((↑ls.length : Int) - y_2).toNat < ((↑ls.length : Int) - y).toNat)) ∧ (decide (y < (↑ls.length : Int)) = false → ∃ (y : Bool), (!decide ((0 : Int) ≤ (-1 : Int))) = y ∧ (y = true ↔ inbOk qs t ls))))) (by kernel_rfl) ?_⟩
  simp only [imin, imax, decide_eq_true_eq, decide_eq_false_iff_not, Prod.forall, Prod.exists, exists_eq_left', exists_eq_left, exists_and_left, exists_and_right, exists_eq_right, exists_eq, exists_eq', true_and, and_true, forall_const, exists_const, eq_self, Bool.not_eq_true, Bool.not_eq_eq_eq_not, Bool.not_true, Bool.not_false, Value.slice.injEq, Option.getD_some, imp_self, implies_true, Option.some.injEq, Addr.mk.injEq, true_or, or_true, List.length_cons, List.length_nil, Nat.zero_add, Nat.reduceAdd]
  refine ⟨fun h => ?_, fun h => ?_⟩
  · simp only [Bool.or_eq_true, decide_eq_true_eq] at h
    exact ⟨fun h' => (by cases h'), fun o => by unfold inbOk at o; omega⟩
  simp only [Bool.or_eq_false_iff, decide_eq_false_iff_not] at h
  refine ⟨⟨by omega, by omega, rfl, fun j hj => by simp at hj⟩, fun k z h0 h1 hz hq => ⟨fun h2 => ?_, fun h2 => ⟨⟨by omega, by omega, fun j hj => by simp at hj⟩, fun y g0 g1 gl => ⟨fun g2 => ?_, fun g2 => ?_⟩⟩⟩⟩
  · have e1 : (k + 1).toNat = k.toNat + 1 := by omega
    refine ⟨h0, h2, by omega, by omega, fun h3 => ⟨fun h' => (by cases h'), fun o => ?_⟩, fun h3 => ⟨fun h4 => ⟨fun h' => (by cases h'), fun o => ?_⟩, fun h4 => ⟨by omega, by omega, by omega, by omega, by rw [e1]; rfl, fun j hj => ?_, by omega⟩⟩⟩
    · have := (o.2.2.2.2.1 k.toNat (by omega)).1
      rw [hz] at h3
      omega
    · have := (o.2.2.2.2.1 k.toNat (by omega)).2
      omega
    · by_cases e : j = k.toNat
      · subst e
        exact ⟨by rw [← hz]; omega, h4⟩
      · exact hq j (by omega)
  · refine ⟨g0, g2, by omega, by omega, fun g3 => ⟨false, by simp [g0], fun h' => (by cases h'), fun o => ?_⟩, fun g3 => ⟨by omega, by omega, by omega, by omega, fun j hj => ?_, by omega⟩⟩
    · have := o.2.2.2.2.2 y.toNat (by omega)
      omega
    · by_cases e : j = y.toNat
      · subst e; exact g3
      · exact gl j (by omega)
  · rw [show k.toNat = qs.length by omega] at hq
    rw [show y.toNat = ls.length by omega] at gl
    exact ⟨true, rfl, fun _ => ⟨by omega, by omega, by omega, by omega, hq, gl⟩, fun _ => rfl⟩
noncomputable def con_imay : Con Xp.P FMp := ⟨107, sg_imay, pr_imay, ps_imay, vc_ok (La := la_imay) (Ca := ca_imay) 300 (fn := Go.Proofs.Try.f107) (by kernel_rfl) (c := cd_imay) (by kernel_rfl) (by kernel_rfl) (by kernel_rfl) (by kernel_rfl) (fun ⟨⟨⟨A, ⟨qs, c⟩⟩, ⟨t, ⟨⟨B, ⟨ls, e⟩⟩, ⟨n, ⟨⟩⟩⟩⟩⟩, ⟨⟩⟩ => vc_imay A qs c t B ls e n)⟩
noncomputable def cd_bmay_ : Code := (Go.Proofs.Try.f14.body).getD .skip
def sg_bmay_ : List Arg := [.ag [.int .u64, .int .u64, .rcs 7 32], .ag [.arr .u64 16]]
def pr_bmay_ : SgT FMp sg_bmay_ → List Prop
  | ((i, (o, (sp, ()))), ((p, ()), ())) => (fun (i o : Int) (sp : List Bool) (p : List Int) => ([r64 p] : List Prop)) i o sp p
def ps_bmay_ : SgT FMp sg_bmay_ → PS FMp
  | ((i, (o, (sp, ()))), ((p, ()), ())) => (fun (i o : Int) (sp : List Bool) (p : List Int) => (⟨Unit, fun y => [], fun y => one (.bool (bmay p i o)), fun y => [], fun y => []⟩ : PS FMp)) i o sp p
def la_bmay_ : SgT FMp sg_bmay_ → List (Nat × (SS FMp → HA FMp))
  | ((i, (o, (sp, ()))), ((p, ()), ())) => (fun (i o : Int) (sp : List Bool) (p : List Int) => ([] : List (Nat × (SS FMp → HA FMp)))) i o sp p
def ca_bmay_ : SgT FMp sg_bmay_ → List (Nat × (SS FMp → HA FMp))
  | ((i, (o, (sp, ()))), ((p, ()), ())) => (fun (i o : Int) (sp : List Bool) (p : List Int) => ([] : List (Nat × (SS FMp → HA FMp)))) i o sp p
theorem vc_bmay_ (i o : Int) (sp : List Bool) (p : List Int) : Vc (vc (FM := FMp) Xp 29 [con_lmay] (la_bmay_ ((i, (o, (sp, ()))), ((p, ()), ()))) (ca_bmay_ ((i, (o, (sp, ()))), ((p, ()), ()))) [] [] [.tmp 4] sg_bmay_ pr_bmay_ ps_bmay_ cd_bmay_ 300 ((i, (o, (sp, ()))), ((p, ()), ()))) := by
  refine ⟨Eq.mpr (β := sp.length = (32 : Nat) → (∀ (a : Bool), List.Mem a sp → True) → p.length = (16 : Nat) → r64 p → ∀ (b b : Nat), r64 p ∧ ∀ (y : Unit), ∃ (y : Unit), (decide (totE p = (0 : Int)) && decide (o ≤ i) && decide (i ≤ (4611686018427387904 : Int)) && decide (p.getD (14 : Nat) (0 : Int) = IntKind.u64.wrap (i - o))) = bmay p i o) (by kernel_rfl) ?_⟩
  simp only [imin, imax, decide_eq_true_eq, decide_eq_false_iff_not, Prod.forall, Prod.exists, exists_eq_left', exists_eq_left, exists_and_left, exists_and_right, exists_eq_right, exists_eq, exists_eq', true_and, and_true, forall_const, exists_const, eq_self, Bool.not_eq_true, Bool.not_eq_eq_eq_not, Bool.not_true, Bool.not_false, Value.slice.injEq, Option.getD_some, imp_self, implies_true, Option.some.injEq, Addr.mk.injEq, true_or, or_true, List.length_cons, List.length_nil, Nat.zero_add, Nat.reduceAdd]
  intro _ _ h
  exact ⟨h, rfl⟩
noncomputable def con_bmay_ : Con Xp.P FMp := ⟨14, sg_bmay_, pr_bmay_, ps_bmay_, vc_ok (La := la_bmay_) (Ca := ca_bmay_) 300 (fn := Go.Proofs.Try.f14) (by kernel_rfl) (c := cd_bmay_) (by kernel_rfl) (by kernel_rfl) (by kernel_rfl) (by kernel_rfl) (fun ⟨⟨i, ⟨o, ⟨sp, ⟨⟩⟩⟩⟩, ⟨⟨p, ⟨⟩⟩, ⟨⟩⟩⟩ => vc_bmay_ i o sp p)⟩

end Go.Pw
