/-
  Walks by computing. No condition.
-/
import Derived.Test.YtogpbbgcdeiplaaIn1
set_option linter.all false
set_option maxRecDepth 100000
set_option maxHeartbeats 1000000
namespace Go.Pw
open Go Go.Px Go.RowKit

noncomputable def cd_swords : Code := (Go.Proofs.Try.f106.body).getD .skip
def sg_swords : List Arg := [.ag [.arr .u8 32]]
def pr_swords : SgT FMp sg_swords → List Prop
  | ((h, ()), ()) => (fun (h : List Int) => ([∀ j, 0 ≤ h.getD j 0 ∧ h.getD j 0 < 256] : List Prop)) h
def ps_swords : SgT FMp sg_swords → PS FMp
  | ((h, ()), ()) => (fun (h : List Int) => (⟨Unit, fun y => [], fun y => .v (.ag (zz .u64 (wdF 4 32 h) 4)), fun y => [], fun y => [(wdF 4 32 h).length = 4]⟩ : PS FMp)) h
def la_swords : SgT FMp sg_swords → List (Nat × (SS FMp → HA FMp))
  | ((h, ()), ()) => (fun (h : List Int) => ([(3, fun S => ⟨Int × (List Int), fun y => [], fun n y => [(7, some (one (.int .i64 (y.1))))], fun n y => setId S.m 2 (zz .u64 y.2 4), fun y => [0 ≤ y.1, y.1 ≤ 32, y.2 = itN (wdS h) y.1.toNat (List.replicate 4 0)], fun y => (32 - y.1).toNat⟩)] : List (Nat × (SS FMp → HA FMp)))) h
def ca_swords : SgT FMp sg_swords → List (Nat × (SS FMp → HA FMp))
  | ((h, ()), ()) => (fun (h : List Int) => ([] : List (Nat × (SS FMp → HA FMp)))) h
theorem vc_swords (h : List Int) : Vc (vc (FM := FMp) Xp 24 [] (la_swords ((h, ()), ())) (ca_swords ((h, ()), ())) [] [] [.cell 2 143] sg_swords pr_swords ps_swords cd_swords 300 ((h, ()), ())) := by
  refine ⟨Eq.mpr (β := h.length = (32 : Nat) → (∀ (j : Nat), (0 : Int) ≤ h.getD j (0 : Int) ∧ h.getD j (0 : Int) < (256 : Int)) → ∀ (b b b : Nat), (∃ (y : Int × List Int), (0 : Int) = y.1 ∧ List.replicate (4 : Nat) (0 : Int) = y.2 ∧ (4 : Nat) = (4 : Nat) ∧ List.replicate (4 : Nat) (0 : Int) = List.replicate (4 : Nat) (0 : Int) ∧ (4 : Nat) = (4 : Nat) ∧ h = h ∧ (32 : Nat) = (32 : Nat) ∧ (0 : Int) ≤ y.1 ∧ y.1 ≤ (32 : Int) ∧ y.2 = itN (wdS h) y.1.toNat (List.replicate (4 : Nat) (0 : Int))) ∧ ∀ (y : Int × List Int), y.2.length = (4 : Nat) → (4 : Nat) = (4 : Nat) → h.length = (32 : Nat) → (0 : Int) ≤ y.1 → y.1 ≤ (32 : Int) → y.2 = itN (wdS h) y.1.toNat (List.replicate (4 : Nat) (0 : Int)) → (decide (y.1 < (32 : Int)) = true → (0 : Int) ≤ y.1 ∧ y.1 < (32 : Int) ∧ y.1.toNat < (32 : Nat) ∧ (0 : Int) ≤ y.1 ∧ y.1 ≤ (9223372036854775807 : Int) ∧ (0 : Int) < (8 : Int) ∧ (0 : Int) ≤ y.1 ∧ y.1 ≤ (9223372036854775807 : Int) ∧ (0 : Int) < (8 : Int) ∧ (0 : Int) ≤ y.1 / (8 : Int) ∧ y.1 / (8 : Int) < (4 : Int) ∧ (y.1 / (8 : Int)).toNat < (4 : Nat) ∧ (0 : Int) ≤ y.1 / (8 : Int) ∧ y.1 / (8 : Int) < (4 : Int) ∧ (y.1 / (8 : Int)).toNat < (4 : Nat) ∧ ∀ (q : List Int), q = y.2.set (y.1 / (8 : Int)).toNat (bor IntKind.u64 (shlV IntKind.u64 (y.2.getD (y.1 / (8 : Int)).toNat (0 : Int)) (8 : Int)) (IntKind.u64.wrap (h.getD y.1.toNat (0 : Int)))) → (-9223372036854775808 : Int) ≤ y.1 + (1 : Int) ∧ y.1 + (1 : Int) ≤ (9223372036854775807 : Int) ∧ ∃ (y_1 : Int × List Int), y.1 + (1 : Int) = y_1.1 ∧ q = y_1.2 ∧ (4 : Nat) = (4 : Nat) ∧ List.replicate (4 : Nat) (0 : Int) = List.replicate (4 : Nat) (0 : Int) ∧ (4 : Nat) = (4 : Nat) ∧ h = h ∧ (32 : Nat) = (32 : Nat) ∧ (0 : Int) ≤ y_1.1 ∧ y_1.1 ≤ (32 : Int) ∧ y_1.2 = itN (wdS h) y_1.1.toNat (List.replicate (4 : Nat) (0 : Int)) ∧ ((32 : Int) - y_1.1).toNat < ((32 : Int) - y.1).toNat) ∧ (decide (y.1 < (32 : Int)) = false → ∃ (y_1 : Unit), y.2 = wdF (4 : Nat) (32 : Nat) h ∧ (4 : Nat) = (4 : Nat) ∧ (wdF (4 : Nat) (32 : Nat) h).length = (4 : Nat))) (by kernel_rfl) ?_⟩
  simp only [imin, imax, decide_eq_true_eq, decide_eq_false_iff_not, Prod.forall, Prod.exists, exists_eq_left', exists_eq_left, exists_and_left, exists_and_right, exists_eq_right, exists_eq, exists_eq', true_and, and_true, forall_const, exists_const, eq_self, Bool.not_eq_true, Bool.not_eq_eq_eq_not, Bool.not_true, Bool.not_false, Value.slice.injEq, Option.getD_some, imp_self, implies_true, Option.some.injEq, Addr.mk.injEq, true_or, or_true, List.length_cons, List.length_nil, Nat.zero_add, Nat.reduceAdd]
  intro hh hr
  refine ⟨⟨by omega, by omega, rfl⟩, fun k q hq _ h0 h1 he => ⟨fun h2 => ⟨h0, h2, by omega, h0, by omega, by omega, h0, by omega, by omega, by omega, by omega, by omega, by omega, by omega, by omega, fun q' hq' => ⟨by omega, by omega, by omega, by omega, ?_, by omega⟩⟩, fun h2 => ⟨by rw [he, show k.toNat = 32 by omega]; rfl, wdF_length _ _ _⟩⟩⟩
  have hk := hr k.toNat
  rw [hq', show (k + 1).toNat = k.toNat + 1 by omega, itN, ← he, wdS, show (k / 8).toNat = k.toNat / 8 by omega, wrap64, Int.emod_eq_of_lt (by omega) (by omega)]
noncomputable def con_swords : Con Xp.P FMp := ⟨106, sg_swords, pr_swords, ps_swords, vc_ok (La := la_swords) (Ca := ca_swords) 300 (fn := Go.Proofs.Try.f106) (by kernel_rfl) (c := cd_swords) (by kernel_rfl) (by kernel_rfl) (by kernel_rfl) (by kernel_rfl) (fun ⟨⟨h, ⟨⟩⟩, ⟨⟩⟩ => vc_swords h)⟩
noncomputable def cd_mmay : Code := (Go.Proofs.Try.f105.body).getD .skip
def sg_mmay : List Arg := [.ag [.int .u8, .int .u64, .int .u64, .int .u64, .int .u64, .arr .u8 32, .arr .u8 32]]
def pr_mmay : SgT FMp sg_mmay → List Prop
  | ((k, (f, (t, (a, (r, (x, (z, ()))))))), ()) => (fun (k f t a r : Int) (x z : List Int) => ([0 ≤ a] : List Prop)) k f t a r x z
def ps_mmay : SgT FMp sg_mmay → PS FMp
  | ((k, (f, (t, (a, (r, (x, (z, ()))))))), ()) => (fun (k f t a r : Int) (x z : List Int) => (⟨Unit, fun y => [], fun y => one (.bool (mayM k f t a r x z)), fun y => [], fun y => []⟩ : PS FMp)) k f t a r x z
def la_mmay : SgT FMp sg_mmay → List (Nat × (SS FMp → HA FMp))
  | ((k, (f, (t, (a, (r, (x, (z, ()))))))), ()) => (fun (k f t a r : Int) (x z : List Int) => ([] : List (Nat × (SS FMp → HA FMp)))) k f t a r x z
def ca_mmay : SgT FMp sg_mmay → List (Nat × (SS FMp → HA FMp))
  | ((k, (f, (t, (a, (r, (x, (z, ()))))))), ()) => (fun (k f t a r : Int) (x z : List Int) => ([] : List (Nat × (SS FMp → HA FMp)))) k f t a r x z
theorem vc_mmay (k f t a r : Int) (x z : List Int) : Vc (vc (FM := FMp) Xp 45 [] (la_mmay ((k, (f, (t, (a, (r, (x, (z, ()))))))), ())) (ca_mmay ((k, (f, (t, (a, (r, (x, (z, ()))))))), ())) [] [] [.tmp 2] sg_mmay pr_mmay ps_mmay cd_mmay 300 ((k, (f, (t, (a, (r, (x, (z, ()))))))), ())) := by
  refine ⟨Eq.mpr (β := x.length = (32 : Nat) → z.length = (32 : Nat) → (0 : Int) ≤ a → ∀ (b b : Nat), (decide (k = (2 : Int)) = true → (decide ((32 : Int) ≤ f) = true → ∃ (y : Unit), false = mayM k f t a r x z) ∧ (decide ((32 : Int) ≤ f) = false → ((!decide (k = (3 : Int)) && decide ((32 : Int) ≤ t) || !decide (k = (2 : Int)) && decide (a = (0 : Int))) = true → ∃ (y : Unit), false = mayM k f t a r x z) ∧ ((!decide (k = (3 : Int)) && decide ((32 : Int) ≤ t) || !decide (k = (2 : Int)) && decide (a = (0 : Int))) = false → ∃ (y : Unit), (decide ((0 : Int) = (0 : Int)) && (decide ((0 : Int) = (0 : Int)) && (decide ((0 : Int) = (0 : Int)) && (decide ((0 : Int) = (0 : Int)) && (decide ((0 : Int) = (0 : Int)) && (decide (List.replicate (32 : Nat) (0 : Int) = List.replicate (32 : Nat) (0 : Int)) && decide (List.replicate (32 : Nat) (0 : Int) = List.replicate (32 : Nat) (0 : Int)))))))) = mayM k f t a r x z))) ∧ (decide (k = (2 : Int)) = false → (decide (k = (3 : Int)) = true → (decide ((32 : Int) ≤ f) = true → ∃ (y : Unit), false = mayM k f t a r x z) ∧ (decide ((32 : Int) ≤ f) = false → ((!decide (k = (3 : Int)) && decide ((32 : Int) ≤ t) || !decide (k = (2 : Int)) && decide (a = (0 : Int))) = true → ∃ (y : Unit), false = mayM k f t a r x z) ∧ ((!decide (k = (3 : Int)) && decide ((32 : Int) ≤ t) || !decide (k = (2 : Int)) && decide (a = (0 : Int))) = false → ∃ (y : Unit), (decide ((0 : Int) = (0 : Int)) && (decide ((0 : Int) = (0 : Int)) && (decide ((0 : Int) = (0 : Int)) && (decide ((0 : Int) = (0 : Int)) && (decide ((0 : Int) = (0 : Int)) && (decide (List.replicate (32 : Nat) (0 : Int) = List.replicate (32 : Nat) (0 : Int)) && decide (List.replicate (32 : Nat) (0 : Int) = List.replicate (32 : Nat) (0 : Int)))))))) = mayM k f t a r x z))) ∧ (decide (k = (3 : Int)) = false → (decide (k = (1 : Int)) = true → ((!decide (k = (3 : Int)) && decide ((32 : Int) ≤ t) || !decide (k = (2 : Int)) && decide (a = (0 : Int))) = true → ∃ (y : Unit), false = mayM k f t a r x z) ∧ ((!decide (k = (3 : Int)) && decide ((32 : Int) ≤ t) || !decide (k = (2 : Int)) && decide (a = (0 : Int))) = false → ∃ (y : Unit), (decide ((0 : Int) = (0 : Int)) && (decide (f = (0 : Int)) && (decide ((0 : Int) = (0 : Int)) && (decide ((0 : Int) = (0 : Int)) && (decide (r = (0 : Int)) && (decide (x = List.replicate (32 : Nat) (0 : Int)) && decide (z = List.replicate (32 : Nat) (0 : Int)))))))) = mayM k f t a r x z)) ∧ (decide (k = (1 : Int)) = false → ∃ (y : Unit), false = mayM k f t a r x z)))) (by kernel_rfl) ?_⟩
  simp only [imin, imax, decide_eq_true_eq, decide_eq_false_iff_not, Prod.forall, Prod.exists, exists_eq_left', exists_eq_left, exists_and_left, exists_and_right, exists_eq_right, exists_eq, exists_eq', true_and, and_true, forall_const, exists_const, eq_self, Bool.not_eq_true, Bool.not_eq_eq_eq_not, Bool.not_true, Bool.not_false, Value.slice.injEq, Option.getD_some, imp_self, implies_true, Option.some.injEq, Addr.mk.injEq, true_or, or_true, List.length_cons, List.length_nil, Nat.zero_add, Nat.reduceAdd]
  intro hx hz ha
  unfold mayM
  repeat' first | apply And.intro | intro _
  all_goals (try subst_vars)
  all_goals (try simp_all)
  all_goals (try omega)
  all_goals (rename_i h; rw [decide_eq_true (show 0 < a by omega), Bool.true_and])
noncomputable def con_mmay : Con Xp.P FMp := ⟨105, sg_mmay, pr_mmay, ps_mmay, vc_ok (La := la_mmay) (Ca := ca_mmay) 300 (fn := Go.Proofs.Try.f105) (by kernel_rfl) (c := cd_mmay) (by kernel_rfl) (by kernel_rfl) (by kernel_rfl) (by kernel_rfl) (fun ⟨⟨k, ⟨f, ⟨t, ⟨a, ⟨r, ⟨x, ⟨z, ⟨⟩⟩⟩⟩⟩⟩⟩⟩, ⟨⟩⟩ => vc_mmay k f t a r x z)⟩
noncomputable def cd_rmay7 : Code := (Go.Proofs.Try.f122.body).getD .skip
def sg_rmay7 : List Arg := [.ag [.int .u8, .int .u64, .int .u64, .int .u64, .int .u64, .arr .u8 32, .arr .u8 32]]
def pr_rmay7 : SgT FMp sg_rmay7 → List Prop
  | ((k, (f, (t, (a, (r, (x, (z, ()))))))), ()) => (fun (k f t a r : Int) (x z : List Int) => ([0 ≤ a] : List Prop)) k f t a r x z
def ps_rmay7 : SgT FMp sg_rmay7 → PS FMp
  | ((k, (f, (t, (a, (r, (x, (z, ()))))))), ()) => (fun (k f t a r : Int) (x z : List Int) => (⟨Unit, fun y => [], fun y => one (.bool (mayM k f t a r x z)), fun y => [], fun y => []⟩ : PS FMp)) k f t a r x z
def la_rmay7 : SgT FMp sg_rmay7 → List (Nat × (SS FMp → HA FMp))
  | ((k, (f, (t, (a, (r, (x, (z, ()))))))), ()) => (fun (k f t a r : Int) (x z : List Int) => ([] : List (Nat × (SS FMp → HA FMp)))) k f t a r x z
def ca_rmay7 : SgT FMp sg_rmay7 → List (Nat × (SS FMp → HA FMp))
  | ((k, (f, (t, (a, (r, (x, (z, ()))))))), ()) => (fun (k f t a r : Int) (x z : List Int) => ([] : List (Nat × (SS FMp → HA FMp)))) k f t a r x z
theorem vc_rmay7 (k f t a r : Int) (x z : List Int) : Vc (vc (FM := FMp) Xp 59 [] (la_rmay7 ((k, (f, (t, (a, (r, (x, (z, ()))))))), ())) (ca_rmay7 ((k, (f, (t, (a, (r, (x, (z, ()))))))), ())) [] [] [.tmp 2] sg_rmay7 pr_rmay7 ps_rmay7 cd_rmay7 300 ((k, (f, (t, (a, (r, (x, (z, ()))))))), ())) := by
  refine ⟨Eq.mpr (β := x.length = (32 : Nat) → z.length = (32 : Nat) → (0 : Int) ≤ a → ∀ (b : Nat), (decide (k = (1 : Int)) = true → ∃ (y : Unit), (decide (f = (0 : Int)) && decide (t < (32 : Int)) && decide ((0 : Int) < a) && (decide (r = (0 : Int)) && decide (x = List.replicate (32 : Nat) (0 : Int)) && decide (z = List.replicate (32 : Nat) (0 : Int)))) = mayM k f t a r x z) ∧ (decide (k = (1 : Int)) = false → (decide (k = (2 : Int)) = true → ∃ (y : Unit), (decide (f < (32 : Int)) && decide (t < (32 : Int))) = mayM k f t a r x z) ∧ (decide (k = (2 : Int)) = false → (decide (k = (3 : Int)) = true → ∃ (y : Unit), (decide (f < (32 : Int)) && decide ((0 : Int) < a)) = mayM k f t a r x z) ∧ (decide (k = (3 : Int)) = false → ∃ (y : Unit), false = mayM k f t a r x z)))) (by kernel_rfl) ?_⟩
  simp only [imin, imax, decide_eq_true_eq, decide_eq_false_iff_not, Prod.forall, Prod.exists, exists_eq_left', exists_eq_left, exists_and_left, exists_and_right, exists_eq_right, exists_eq, exists_eq', true_and, and_true, forall_const, exists_const, eq_self, Bool.not_eq_true, Bool.not_eq_eq_eq_not, Bool.not_true, Bool.not_false, Value.slice.injEq, Option.getD_some, imp_self, implies_true, Option.some.injEq, Addr.mk.injEq, true_or, or_true, List.length_cons, List.length_nil, Nat.zero_add, Nat.reduceAdd]
  intro hx hz ha
  unfold mayM
  repeat' first | apply And.intro | intro _
  all_goals (try subst_vars)
  all_goals (try simp_all)
  all_goals (try omega)
  all_goals (simp only [Bool.and_assoc])
noncomputable def con_rmay7 : Con Xp.P FMp := ⟨122, sg_rmay7, pr_rmay7, ps_rmay7, vc_ok (La := la_rmay7) (Ca := ca_rmay7) 300 (fn := Go.Proofs.Try.f122) (by kernel_rfl) (c := cd_rmay7) (by kernel_rfl) (by kernel_rfl) (by kernel_rfl) (by kernel_rfl) (fun ⟨⟨k, ⟨f, ⟨t, ⟨a, ⟨r, ⟨x, ⟨z, ⟨⟩⟩⟩⟩⟩⟩⟩⟩, ⟨⟩⟩ => vc_rmay7 k f t a r x z)⟩
noncomputable def cd_rfrom : Code := (Go.Proofs.Try.f73.body).getD .skip
def sg_rfrom : List Arg := [.ag [.arr .u64 4]]
def pr_rfrom : SgT FMp sg_rfrom → List Prop
  | ((w, ()), ()) => (fun (w : List Int) => ([] : List Prop)) w
def ps_rfrom : SgT FMp sg_rfrom → PS FMp
  | ((w, ()), ()) => (fun (w : List Int) => (⟨Unit, fun y => [], fun y => .v (.ag (zz .u8 (frF 32 32 w) 32)), fun y => [], fun y => [(frF 32 32 w).length = 32]⟩ : PS FMp)) w
def la_rfrom : SgT FMp sg_rfrom → List (Nat × (SS FMp → HA FMp))
  | ((w, ()), ()) => (fun (w : List Int) => ([(3, fun S => ⟨Int × (List Int), fun y => [], fun n y => [(4, some (one (.int .i64 (y.1))))], fun n y => setId S.m 2 (zz .u8 y.2 32), fun y => [0 ≤ y.1, y.1 ≤ 32, y.2 = itN (frS w) y.1.toNat (List.replicate 32 0)], fun y => (32 - y.1).toNat⟩)] : List (Nat × (SS FMp → HA FMp)))) w
def ca_rfrom : SgT FMp sg_rfrom → List (Nat × (SS FMp → HA FMp))
  | ((w, ()), ()) => (fun (w : List Int) => ([] : List (Nat × (SS FMp → HA FMp)))) w
theorem vc_rfrom (w : List Int) : Vc (vc (FM := FMp) Xp 23 [] (la_rfrom ((w, ()), ())) (ca_rfrom ((w, ()), ())) [] [] [.cell 2 40] sg_rfrom pr_rfrom ps_rfrom cd_rfrom 300 ((w, ()), ())) := by
  refine ⟨Eq.mpr (β := w.length = (4 : Nat) → ∀ (b b b : Nat), (∃ (y : Int × List Int), (0 : Int) = y.1 ∧ List.replicate (32 : Nat) (0 : Int) = y.2 ∧ (32 : Nat) = (32 : Nat) ∧ List.replicate (32 : Nat) (0 : Int) = List.replicate (32 : Nat) (0 : Int) ∧ (32 : Nat) = (32 : Nat) ∧ w = w ∧ (4 : Nat) = (4 : Nat) ∧ (0 : Int) ≤ y.1 ∧ y.1 ≤ (32 : Int) ∧ y.2 = itN (frS w) y.1.toNat (List.replicate (32 : Nat) (0 : Int))) ∧ ∀ (y : Int × List Int), y.2.length = (32 : Nat) → (32 : Nat) = (32 : Nat) → w.length = (4 : Nat) → (0 : Int) ≤ y.1 → y.1 ≤ (32 : Int) → y.2 = itN (frS w) y.1.toNat (List.replicate (32 : Nat) (0 : Int)) → (decide (y.1 < (32 : Int)) = true → (0 : Int) ≤ y.1 ∧ y.1 ≤ (9223372036854775807 : Int) ∧ (0 : Int) < (8 : Int) ∧ (0 : Int) ≤ y.1 / (8 : Int) ∧ y.1 / (8 : Int) < (4 : Int) ∧ (y.1 / (8 : Int)).toNat < (4 : Nat) ∧ (0 : Int) ≤ y.1 ∧ (0 : Int) < (8 : Int) ∧ (-9223372036854775808 : Int) ≤ (8 : Int) * (y.1 % (8 : Int)) ∧ (8 : Int) * (y.1 % (8 : Int)) ≤ (9223372036854775807 : Int) ∧ (-9223372036854775808 : Int) ≤ (56 : Int) - (8 : Int) * (y.1 % (8 : Int)) ∧ (56 : Int) - (8 : Int) * (y.1 % (8 : Int)) ≤ (9223372036854775807 : Int) ∧ (0 : Int) ≤ IntKind.u64.wrap ((56 : Int) - (8 : Int) * (y.1 % (8 : Int))) ∧ (0 : Int) ≤ y.1 ∧ y.1 < (32 : Int) ∧ y.1.toNat < (32 : Nat) ∧ ∀ (q : List Int), q = y.2.set y.1.toNat (IntKind.u8.wrap (shrV IntKind.u64 (w.getD (y.1 / (8 : Int)).toNat (0 : Int)) (IntKind.u64.wrap ((56 : Int) - (8 : Int) * (y.1 % (8 : Int)))))) → (-9223372036854775808 : Int) ≤ y.1 + (1 : Int) ∧ y.1 + (1 : Int) ≤ (9223372036854775807 : Int) ∧ ∃ (y_1 : Int × List Int), y.1 + (1 : Int) = y_1.1 ∧ q = y_1.2 ∧ (32 : Nat) = (32 : Nat) ∧ List.replicate (32 : Nat) (0 : Int) = List.replicate (32 : Nat) (0 : Int) ∧ (32 : Nat) = (32 : Nat) ∧ w = w ∧ (4 : Nat) = (4 : Nat) ∧ (0 : Int) ≤ y_1.1 ∧ y_1.1 ≤ (32 : Int) ∧ y_1.2 = itN (frS w) y_1.1.toNat (List.replicate (32 : Nat) (0 : Int)) ∧ ((32 : Int) - y_1.1).toNat < ((32 : Int) - y.1).toNat) ∧ (decide (y.1 < (32 : Int)) = false → ∃ (y_1 : Unit), y.2 = frF (32 : Nat) (32 : Nat) w ∧ (32 : Nat) = (32 : Nat) ∧ (frF (32 : Nat) (32 : Nat) w).length = (32 : Nat))) (by kernel_rfl) ?_⟩
  simp only [imin, imax, decide_eq_true_eq, decide_eq_false_iff_not, Prod.forall, Prod.exists, exists_eq_left', exists_eq_left, exists_and_left, exists_and_right, exists_eq_right, exists_eq, exists_eq', true_and, and_true, forall_const, exists_const, eq_self, Bool.not_eq_true, Bool.not_eq_eq_eq_not, Bool.not_true, Bool.not_false, Value.slice.injEq, Option.getD_some, imp_self, implies_true, Option.some.injEq, Addr.mk.injEq, true_or, or_true, List.length_cons, List.length_nil, Nat.zero_add, Nat.reduceAdd]
  intro hw
  refine ⟨⟨by omega, by omega, rfl⟩, fun k q hq _ h0 h1 he => ⟨fun h2 => ⟨h0, by omega, by omega, by omega, by omega, by omega, h0, by omega, by omega, by omega, by omega, by omega, ?_, h0, h2, by omega, fun q' hq' => ⟨by omega, by omega, by omega, by omega, ?_, by omega⟩⟩, fun h2 => ⟨by rw [he, show k.toNat = 32 by omega]; rfl, frF_length _ _ _⟩⟩⟩
  · rw [wrap64]; omega
  · rw [hq', show (k + 1).toNat = k.toNat + 1 by omega, itN, ← he, frS, show (k / 8).toNat = k.toNat / 8 by omega, Int.toNat_of_nonneg h0, wrap64, Int.emod_eq_of_lt (by omega) (by omega)]
noncomputable def con_rfrom : Con Xp.P FMp := ⟨73, sg_rfrom, pr_rfrom, ps_rfrom, vc_ok (La := la_rfrom) (Ca := ca_rfrom) 300 (fn := Go.Proofs.Try.f73) (by kernel_rfl) (c := cd_rfrom) (by kernel_rfl) (by kernel_rfl) (by kernel_rfl) (by kernel_rfl) (fun ⟨⟨w, ⟨⟩⟩, ⟨⟩⟩ => vc_rfrom w)⟩

end Go.Pw
