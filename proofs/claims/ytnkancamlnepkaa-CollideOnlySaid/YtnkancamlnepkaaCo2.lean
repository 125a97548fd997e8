/-
  Walks by computing. No condition.
-/
import Derived.Test.YtnkancamlnepkaaCo1
set_option linter.all false
set_option maxRecDepth 100000
set_option maxHeartbeats 1000000
namespace Go.Pw
open Go Go.Px Go.RowKit
attribute [local irreducible] shaF

noncomputable def cd_same : Code := (Go.Proofs.Try.f29.body).getD .skip
def sg_same : List Arg := [.one (.sli .u8), .one (.sli .u8)]
def pr_same : SgT FMp sg_same → List Prop
  | ((A, (a, c)), ((B, (b, e)), ())) => (fun (A : Option Addr) (a : List Int) (c : Nat) (B : Option Addr) (b : List Int) (e : Nat) => ([rg a, rg b] : List Prop)) A a c B b e
def ps_same : SgT FMp sg_same → PS FMp
  | ((A, (a, c)), ((B, (b, e)), ())) => (fun (A : Option Addr) (a : List Int) (c : Nat) (B : Option Addr) (b : List Int) (e : Nat) => (⟨Unit, fun y => [], fun y => one (.bool (decide (a = b))), fun y => [], fun y => []⟩ : PS FMp)) A a c B b e
def la_same : SgT FMp sg_same → List (Nat × (SS FMp → HA FMp))
  | ((A, (a, c)), ((B, (b, e)), ())) => (fun (A : Option Addr) (a : List Int) (c : Nat) (B : Option Addr) (b : List Int) (e : Nat) => ([] : List (Nat × (SS FMp → HA FMp)))) A a c B b e
def ca_same : SgT FMp sg_same → List (Nat × (SS FMp → HA FMp))
  | ((A, (a, c)), ((B, (b, e)), ())) => (fun (A : Option Addr) (a : List Int) (c : Nat) (B : Option Addr) (b : List Int) (e : Nat) => ([] : List (Nat × (SS FMp → HA FMp)))) A a c B b e
theorem vc_same (A : Option Addr) (a : List Int) (c : Nat) (B : Option Addr) (b : List Int) (e : Nat) : Vc (vc (FM := FMp) Xp 10 [] (la_same ((A, (a, c)), ((B, (b, e)), ()))) (ca_same ((A, (a, c)), ((B, (b, e)), ()))) [] [] [.tmp 4] sg_same pr_same ps_same cd_same 300 ((A, (a, c)), ((B, (b, e)), ()))) := by
  refine ⟨Eq.mpr (β := (A.isNone = true → a = []) → (B.isNone = true → b = []) → rg a → rg b → a.length = a.length ∧ b.length = b.length ∧ (∀ (x : Int), x ∈ a → (0 : Int) ≤ x ∧ x < (256 : Int)) ∧ (∀ (x : Int), x ∈ b → (0 : Int) ≤ x ∧ x < (256 : Int)) ∧ ∃ (y : Unit), decide (a = b) = decide (a = b)) (by kernel_rfl) ?_⟩
  simp only [imin, imax, decide_eq_true_eq, decide_eq_false_iff_not, Prod.forall, Prod.exists, exists_eq_left', exists_eq_left, exists_and_left, exists_and_right, exists_eq_right, exists_eq, exists_eq', true_and, and_true, forall_const, exists_const, eq_self, Bool.not_eq_true, Bool.not_eq_eq_eq_not, Bool.not_true, Bool.not_false, Value.slice.injEq, Option.getD_some, imp_self, implies_true, Option.some.injEq, Addr.mk.injEq, true_or, or_true, List.length_cons, List.length_nil, Nat.zero_add, Nat.reduceAdd]
  intro _ _ ha hb
  exact ⟨mem_of_get (p := fun x => 0 ≤ x ∧ x < 256) ha, mem_of_get (p := fun x => 0 ≤ x ∧ x < 256) hb⟩
noncomputable def con_same : Con Xp.P FMp := ⟨29, sg_same, pr_same, ps_same, vc_ok (La := la_same) (Ca := ca_same) 300 (fn := Go.Proofs.Try.f29) (by kernel_rfl) (c := cd_same) (by kernel_rfl) (by kernel_rfl) (by kernel_rfl) (by kernel_rfl) (fun ⟨⟨A, ⟨a, c⟩⟩, ⟨⟨B, ⟨b, e⟩⟩, ⟨⟩⟩⟩ => vc_same A a c B b e)⟩
noncomputable def cd_beq : Code := (Go.Proofs.Try.f49.body).getD .skip
def sg_beq : List Arg := [.one (.sli .u8), .one (.sli .u8)]
def pr_beq : SgT FMp sg_beq → List Prop
  | ((A, (a, c)), ((B, (b, e)), ())) => (fun (A : Option Addr) (a : List Int) (c : Nat) (B : Option Addr) (b : List Int) (e : Nat) => ([rg a, rg b] : List Prop)) A a c B b e
def ps_beq : SgT FMp sg_beq → PS FMp
  | ((A, (a, c)), ((B, (b, e)), ())) => (fun (A : Option Addr) (a : List Int) (c : Nat) (B : Option Addr) (b : List Int) (e : Nat) => (⟨Unit, fun y => [], fun y => one (.bool (decide (a = b))), fun y => [], fun y => []⟩ : PS FMp)) A a c B b e
def la_beq : SgT FMp sg_beq → List (Nat × (SS FMp → HA FMp))
  | ((A, (a, c)), ((B, (b, e)), ())) => (fun (A : Option Addr) (a : List Int) (c : Nat) (B : Option Addr) (b : List Int) (e : Nat) => ([] : List (Nat × (SS FMp → HA FMp)))) A a c B b e
def ca_beq : SgT FMp sg_beq → List (Nat × (SS FMp → HA FMp))
  | ((A, (a, c)), ((B, (b, e)), ())) => (fun (A : Option Addr) (a : List Int) (c : Nat) (B : Option Addr) (b : List Int) (e : Nat) => ([] : List (Nat × (SS FMp → HA FMp)))) A a c B b e
theorem vc_beq (A : Option Addr) (a : List Int) (c : Nat) (B : Option Addr) (b : List Int) (e : Nat) : Vc (vc (FM := FMp) Xp 10 [] (la_beq ((A, (a, c)), ((B, (b, e)), ()))) (ca_beq ((A, (a, c)), ((B, (b, e)), ()))) [] [] [.tmp 4] sg_beq pr_beq ps_beq cd_beq 300 ((A, (a, c)), ((B, (b, e)), ()))) := by
  refine ⟨Eq.mpr (β := (A.isNone = true → a = []) → (B.isNone = true → b = []) → rg a → rg b → a.length = a.length ∧ b.length = b.length ∧ (∀ (x : Int), x ∈ a → (0 : Int) ≤ x ∧ x < (256 : Int)) ∧ (∀ (x : Int), x ∈ b → (0 : Int) ≤ x ∧ x < (256 : Int)) ∧ ∃ (y : Unit), decide (a = b) = decide (a = b)) (by kernel_rfl) ?_⟩
  simp only [imin, imax, decide_eq_true_eq, decide_eq_false_iff_not, Prod.forall, Prod.exists, exists_eq_left', exists_eq_left, exists_and_left, exists_and_right, exists_eq_right, exists_eq, exists_eq', true_and, and_true, forall_const, exists_const, eq_self, Bool.not_eq_true, Bool.not_eq_eq_eq_not, Bool.not_true, Bool.not_false, Value.slice.injEq, Option.getD_some, imp_self, implies_true, Option.some.injEq, Addr.mk.injEq, true_or, or_true, List.length_cons, List.length_nil, Nat.zero_add, Nat.reduceAdd]
  intro _ _ ha hb
  exact ⟨mem_of_get (p := fun x => 0 ≤ x ∧ x < 256) ha, mem_of_get (p := fun x => 0 ≤ x ∧ x < 256) hb⟩
noncomputable def con_beq : Con Xp.P FMp := ⟨49, sg_beq, pr_beq, ps_beq, vc_ok (La := la_beq) (Ca := ca_beq) 300 (fn := Go.Proofs.Try.f49) (by kernel_rfl) (c := cd_beq) (by kernel_rfl) (by kernel_rfl) (by kernel_rfl) (by kernel_rfl) (fun ⟨⟨A, ⟨a, c⟩⟩, ⟨⟨B, ⟨b, e⟩⟩, ⟨⟩⟩⟩ => vc_beq A a c B b e)⟩
noncomputable def cd_rcpath : Code := (Go.Proofs.Try.f26.body).getD .skip
def sg_rcpath : List Arg := [.one (.int .i64), .ag [.arr .u8 32], .one (.slr 0)]
def pr_rcpath : SgT FMp sg_rcpath → List Prop
  | (i, ((x, ()), ((A, (ps, c)), ()))) => (fun (i : Int) (x : List Int) (A : Option Addr) (ps : List (List Int)) (c : Nat) => ([rg x, ∀ a ∈ ps, rg a] : List Prop)) i x A ps c
def ps_rcpath : SgT FMp sg_rcpath → PS FMp
  | (i, ((x, ()), ((A, (ps, c)), ()))) => (fun (i : Int) (x : List Int) (A : Option Addr) (ps : List (List Int)) (c : Nat) => (⟨(Option Addr) × Nat × (List ((Option Addr × List Int × Nat) × List Int)), fun y => [.ad y.1], fun y => .tup [.one (.sc 0 0 y.2.2.length y.2.1 false), .one (.xv (.int .i64 (fldE i ps.length)))], fun y => [.sl 0 y.2.2.length y.2.1 [.f 5 y.2.2 y.2.2.length] 67 33, .fz [] [[.f 5 y.2.2 y.2.2.length]]], fun y => [ctH y.2.2 = pth i x ps]⟩ : PS FMp)) i x A ps c
def la_rcpath : SgT FMp sg_rcpath → List (Nat × (SS FMp → HA FMp))
  | (i, ((x, ()), ((A, (ps, c)), ()))) => (fun (i : Int) (x : List Int) (A : Option Addr) (ps : List (List Int)) (c : Nat) => ([(6, fun S => ⟨Int × Int × (List Int) × (Option Addr) × Nat × (List ((Option Addr × List Int × Nat) × List Int)), fun y => [.ad y.2.2.2.1], fun n y => [(11, some (one (.int .i64 (y.1)))), (0, some (one (.int .i64 (y.2.1)))), (10, some (.v (.one (.sc n 0 y.2.2.2.2.2.length y.2.2.2.2.1 false))))], fun n y => .sl n y.2.2.2.2.2.length y.2.2.2.2.1 [.f 5 y.2.2.2.2.2 y.2.2.2.2.2.length] 67 33 :: .fz [] [[.f 5 y.2.2.2.2.2 y.2.2.2.2.2.length]] :: setId S.m 1 (zz .u8 y.2.2.1 32), fun y => [0 ≤ y.1, y.1 ≤ ps.length, y.2.1 = ((i.toNat / 2 ^ y.1.toNat : Nat) : Int), y.2.2.1 = fldN i.toNat ps x y.1.toNat, ctH y.2.2.2.2.2 = pthN i.toNat ps x y.1.toNat, rg y.2.2.1], fun y => (ps.length - y.1).toNat⟩)] : List (Nat × (SS FMp → HA FMp)))) i x A ps c
def ca_rcpath : SgT FMp sg_rcpath → List (Nat × (SS FMp → HA FMp))
  | (i, ((x, ()), ((A, (ps, c)), ()))) => (fun (i : Int) (x : List Int) (A : Option Addr) (ps : List (List Int)) (c : Nat) => ([(9, fun S => ⟨Nat × Nat × (List Int) × (List Int), fun y => [.bk y.1, .bk y.2.1], fun n y => [(12, some (.v (.one (.pt n 0)))), (13, some (.v (.one (.pt (n + 1) 0))))], fun n y => .bk (n + 1) (zz .u8 y.2.2.2 32) 35 :: .bk n (zz .u8 y.2.2.1 32) 35 :: S.m, fun y => [y.2.2.1 = la_l S 1, y.2.2.2 = ps.getD (la_i S 11).toNat (List.replicate 32 0)], fun y => 0⟩), (11, fun S => ⟨(List Int) × (List Int), fun y => [], fun n y => [], fun n y => setId (setId S.m 4 (zz .u8 y.1 32)) 5 (zz .u8 y.2 32), fun y => [y.1 = if la_i S 0 % 2 = 1 then la_l S 5 else la_l S 4, y.2 = if la_i S 0 % 2 = 1 then la_l S 4 else la_l S 5], fun y => 0⟩)] : List (Nat × (SS FMp → HA FMp)))) i x A ps c
theorem vc_rcpath (i : Int) (x : List Int) (A : Option Addr) (ps : List (List Int)) (c : Nat) : Vc (vc (FM := FMp) Xp 56 [con_rfold, con_rpair] (la_rcpath (i, ((x, ()), ((A, (ps, c)), ())))) (ca_rcpath (i, ((x, ()), ((A, (ps, c)), ())))) [] [] [.tmp 6, .tmp 7] sg_rcpath pr_rcpath ps_rcpath cd_rcpath 300 (i, ((x, ()), ((A, (ps, c)), ())))) := by
  refine ⟨Eq.mpr (β := x.length = (32 : Nat) → (∀ (a : List Int), a ∈ ps → a.length = (32 : Nat)) → rg x → (∀ (a : List Int), a ∈ ps → rg a) → ∀ (b : Nat), ps.length = ps.length ∧ rg x ∧ (∀ (a : List Int), a ∈ ps → rg a) ∧ ∀ (y : Unit), (fldH i x ps).length = (32 : Nat) → (fldH i x ps).length = (32 : Nat) → ∀ (b_1 : Nat), ((!decide (fldE i ps.length = (0 : Int))) = true → ∃ (y : Option Addr × Nat × List ((Option Addr × List Int × Nat) × List Int)), Value.slice none (0 : Nat) (0 : Nat) = Value.slice y.1 y.2.2.length y.2.1 ∧ fldE i ps.length = fldE i ps.length ∧ y.1 = none ∧ y.2.2.length = (0 : Nat) ∧ y.2.1 = (0 : Nat) ∧ y.2.2 = [] ∧ y.2.2.length = (0 : Nat) ∧ y.2.2 = [] ∧ ctH y.2.2 = pth i x ps) ∧ ((!decide (fldE i ps.length = (0 : Int))) = false → (∃ (y : Int × Int × List Int × Option Addr × Nat × List ((Option Addr × List Int × Nat) × List Int)), (0 : Int) = y.1 ∧ i = y.2.1 ∧ Value.slice none (0 : Nat) (0 : Nat) = Value.slice y.snd.snd.2.1 y.snd.snd.snd.2.2.length y.snd.snd.snd.2.1 ∧ y.snd.snd.2.1 = none ∧ y.snd.snd.snd.2.2.length = (0 : Nat) ∧ y.snd.snd.snd.2.1 = (0 : Nat) ∧ y.snd.snd.snd.2.2 = [] ∧ y.snd.snd.snd.2.2.length = (0 : Nat) ∧ y.snd.snd.snd.2.2 = [] ∧ fldH i x ps = fldH i x ps ∧ (32 : Nat) = (32 : Nat) ∧ x = y.snd.2.1 ∧ (32 : Nat) = (32 : Nat) ∧ (0 : Int) ≤ y.1 ∧ y.1 ≤ (↑ps.length : Int) ∧ y.2.1 = (↑(i.toNat / (2 : Nat) ^ y.1.toNat) : Int) ∧ y.snd.2.1 = fldN i.toNat ps x y.1.toNat ∧ ctH y.snd.snd.snd.2.2 = pthN i.toNat ps x y.1.toNat ∧ rg y.snd.2.1) ∧ ∀ (y : Int × Int × List Int × Option Addr × Nat × List ((Option Addr × List Int × Nat) × List Int)), y.snd.snd.snd.2.2.length = y.snd.snd.snd.2.2.length → (∀ (a : (Option Addr × List Int × Nat) × List Int), a ∈ y.snd.snd.snd.2.2 → a.2.length = (32 : Nat)) → (fldH i x ps).length = (32 : Nat) → y.snd.2.1.length = (32 : Nat) → (0 : Int) ≤ y.1 → y.1 ≤ (↑ps.length : Int) → y.2.1 = (↑(i.toNat / (2 : Nat) ^ y.1.toNat) : Int) → y.snd.2.1 = fldN i.toNat ps x y.1.toNat → ctH y.snd.snd.snd.2.2 = pthN i.toNat ps x y.1.toNat → rg y.snd.2.1 → (decide (y.1 < (↑ps.length : Int)) = true → ((0 : Int) ≤ y.1 ∧ y.1 < (↑ps.length : Int) ∧ y.1.toNat < ps.length ∧ y.1.toNat < ps.length ∧ (∀ (b b_2 : Nat), ∃ (y_1 : Nat × Nat × List Int × List Int), some (Addr.mk b (0 : Nat) none) = some (Addr.mk y_1.1 (0 : Nat) none) ∧ some (Addr.mk b_2 (0 : Nat) none) = some (Addr.mk y_1.2.1 (0 : Nat) none) ∧ some (Addr.mk b_2 (0 : Nat) none) = some (Addr.mk y_1.2.1 (0 : Nat) none) ∧ ps.getD y.1.toNat (List.replicate (32 : Nat) (0 : Int)) = y_1.snd.2.2 ∧ (32 : Nat) = (32 : Nat) ∧ some (Addr.mk b (0 : Nat) none) = some (Addr.mk y_1.1 (0 : Nat) none) ∧ y.snd.2.1 = y_1.snd.2.1 ∧ (32 : Nat) = (32 : Nat) ∧ y.snd.snd.snd.2.2.length = y.snd.snd.snd.2.2.length ∧ y.snd.snd.snd.2.1 = y.snd.snd.snd.2.1 ∧ y.snd.snd.snd.2.2 = y.snd.snd.snd.2.2 ∧ y.snd.snd.snd.2.2.length = y.snd.snd.snd.2.2.length ∧ (∀ (a : (Option Addr × List Int × Nat) × List Int), a ∈ y.snd.snd.snd.2.2 → a ∈ y.snd.snd.snd.2.2) ∧ fldH i x ps = fldH i x ps ∧ (32 : Nat) = (32 : Nat) ∧ y.snd.2.1 = y.snd.2.1 ∧ (32 : Nat) = (32 : Nat) ∧ y_1.snd.2.1 = y.snd.2.1 ∧ y_1.snd.2.2 = ps.getD y.1.toNat (List.replicate (32 : Nat) (0 : Int))) ∧ ∀ (b b_2 : Nat), ∃ (y_1 : Nat × Nat × List Int × List Int), some (Addr.mk b_2 (0 : Nat) none) = some (Addr.mk y_1.1 (0 : Nat) none) ∧ some (Addr.mk b (0 : Nat) none) = some (Addr.mk y_1.2.1 (0 : Nat) none) ∧ some (Addr.mk b (0 : Nat) none) = some (Addr.mk y_1.2.1 (0 : Nat) none) ∧ ps.getD y.1.toNat (List.replicate (32 : Nat) (0 : Int)) = y_1.snd.2.2 ∧ (32 : Nat) = (32 : Nat) ∧ some (Addr.mk b_2 (0 : Nat) none) = some (Addr.mk y_1.1 (0 : Nat) none) ∧ y.snd.2.1 = y_1.snd.2.1 ∧ (32 : Nat) = (32 : Nat) ∧ y.snd.snd.snd.2.2.length = y.snd.snd.snd.2.2.length ∧ y.snd.snd.snd.2.1 = y.snd.snd.snd.2.1 ∧ y.snd.snd.snd.2.2 = y.snd.snd.snd.2.2 ∧ y.snd.snd.snd.2.2.length = y.snd.snd.snd.2.2.length ∧ (∀ (a : (Option Addr × List Int × Nat) × List Int), a ∈ y.snd.snd.snd.2.2 → a ∈ y.snd.snd.snd.2.2) ∧ fldH i x ps = fldH i x ps ∧ (32 : Nat) = (32 : Nat) ∧ y.snd.2.1 = y.snd.2.1 ∧ (32 : Nat) = (32 : Nat) ∧ y_1.snd.2.1 = y.snd.2.1 ∧ y_1.snd.2.2 = ps.getD y.1.toNat (List.replicate (32 : Nat) (0 : Int))) ∧ ∀ (y_1 : Nat × Nat × List Int × List Int), y_1.snd.2.2.length = (32 : Nat) → y_1.snd.2.1.length = (32 : Nat) → y.snd.snd.snd.2.2.length = y.snd.snd.snd.2.2.length → (∀ (a : (Option Addr × List Int × Nat) × List Int), a ∈ y.snd.snd.snd.2.2 → a.2.length = (32 : Nat)) → (fldH i x ps).length = (32 : Nat) → y.snd.2.1.length = (32 : Nat) → y_1.snd.2.1 = y.snd.2.1 → y_1.snd.2.2 = ps.getD y.1.toNat (List.replicate (32 : Nat) (0 : Int)) → ((0 : Int) ≤ y.2.1 ∧ (0 : Int) < (2 : Int) ∧ (decide (y.2.1 % (2 : Int) = (1 : Int)) = true → ∃ (y_2 : List Int × List Int), y_1.snd.2.1 = y_2.2 ∧ (32 : Nat) = (32 : Nat) ∧ y_1.snd.2.2 = y_2.1 ∧ (32 : Nat) = (32 : Nat) ∧ y.snd.snd.snd.2.2.length = y.snd.snd.snd.2.2.length ∧ y.snd.snd.snd.2.1 = y.snd.snd.snd.2.1 ∧ y.snd.snd.snd.2.2 = y.snd.snd.snd.2.2 ∧ y.snd.snd.snd.2.2.length = y.snd.snd.snd.2.2.length ∧ (∀ (a : (Option Addr × List Int × Nat) × List Int), a ∈ y.snd.snd.snd.2.2 → a ∈ y.snd.snd.snd.2.2) ∧ fldH i x ps = fldH i x ps ∧ (32 : Nat) = (32 : Nat) ∧ y.snd.2.1 = y.snd.2.1 ∧ (32 : Nat) = (32 : Nat) ∧ (y_2.1 = if y.2.1 % (2 : Int) = (1 : Int) then y_1.snd.2.2 else y_1.snd.2.1) ∧ y_2.2 = if y.2.1 % (2 : Int) = (1 : Int) then y_1.snd.2.1 else y_1.snd.2.2) ∧ (decide (y.2.1 % (2 : Int) = (1 : Int)) = false → ∃ (y_2 : List Int × List Int), y_1.snd.2.2 = y_2.2 ∧ (32 : Nat) = (32 : Nat) ∧ y_1.snd.2.1 = y_2.1 ∧ (32 : Nat) = (32 : Nat) ∧ y.snd.snd.snd.2.2.length = y.snd.snd.snd.2.2.length ∧ y.snd.snd.snd.2.1 = y.snd.snd.snd.2.1 ∧ y.snd.snd.snd.2.2 = y.snd.snd.snd.2.2 ∧ y.snd.snd.snd.2.2.length = y.snd.snd.snd.2.2.length ∧ (∀ (a : (Option Addr × List Int × Nat) × List Int), a ∈ y.snd.snd.snd.2.2 → a ∈ y.snd.snd.snd.2.2) ∧ fldH i x ps = fldH i x ps ∧ (32 : Nat) = (32 : Nat) ∧ y.snd.2.1 = y.snd.2.1 ∧ (32 : Nat) = (32 : Nat) ∧ (y_2.1 = if y.2.1 % (2 : Int) = (1 : Int) then y_1.snd.2.2 else y_1.snd.2.1) ∧ y_2.2 = if y.2.1 % (2 : Int) = (1 : Int) then y_1.snd.2.1 else y_1.snd.2.2)) ∧ ∀ (y_2 : List Int × List Int), y_2.2.length = (32 : Nat) → y_2.1.length = (32 : Nat) → y.snd.snd.snd.2.2.length = y.snd.snd.snd.2.2.length → (∀ (a : (Option Addr × List Int × Nat) × List Int), a ∈ y.snd.snd.snd.2.2 → a.2.length = (32 : Nat)) → (fldH i x ps).length = (32 : Nat) → y.snd.2.1.length = (32 : Nat) → (y_2.1 = if y.2.1 % (2 : Int) = (1 : Int) then y_1.snd.2.2 else y_1.snd.2.1) → (y_2.2 = if y.2.1 % (2 : Int) = (1 : Int) then y_1.snd.2.1 else y_1.snd.2.2) → (∀ (j : Nat), (0 : Int) ≤ y_2.1.getD j (0 : Int) ∧ y_2.1.getD j (0 : Int) < (256 : Int)) ∧ (∀ (j : Nat), (0 : Int) ≤ y_2.2.getD j (0 : Int) ∧ y_2.2.getD j (0 : Int) < (256 : Int)) ∧ ∀ (y_3 : Unit), (shaF ([(1 : Int)] ++ y_2.1 ++ y_2.2)).length = (32 : Nat) → (shaF ([(1 : Int)] ++ y_2.1 ++ y_2.2)).length = (32 : Nat) → ∀ (b : Nat), (1 : Nat) = (1 : Nat) ∧ (1 : Nat) = (1 : Nat) ∧ (32 : Nat) = (32 : Nat) ∧ (33 : Nat) * Proofs.Try.prog.types[(5 : Nat)].bytes ≤ (140737488355328 : Nat) ∧ ∀ (A : Option Addr) (q : Nat), (33 : Nat) ≤ q → (33 : Nat) = (33 : Nat) ∧ q = q ∧ (32 : Nat) = (32 : Nat) ∧ (65 : Nat) * Proofs.Try.prog.types[(5 : Nat)].bytes ≤ (140737488355328 : Nat) ∧ ∀ (A : Option Addr) (q : Nat), (65 : Nat) ≤ q → ∀ (b : Nat), (65 : Nat) = ([(1 : Int)] ++ y_2.1 ++ y_2.2).length ∧ y.snd.snd.snd.2.2.length = y.snd.snd.snd.2.2.length ∧ y.snd.snd.snd.2.1 = y.snd.snd.snd.2.1 ∧ (1 : Nat) = [((A, [(1 : Int)] ++ y_2.1 ++ y_2.2, q), shaF ([(1 : Int)] ++ y_2.1 ++ y_2.2))].length ∧ (y.snd.snd.snd.2.2.length + (1 : Nat)) * Proofs.Try.prog.types[(67 : Nat)].bytes ≤ (140737488355328 : Nat) ∧ ∀ (A_1 : Option Addr) (q_1 : Nat), y.snd.snd.snd.2.2.length + (1 : Nat) ≤ q_1 → (0 : Int) ≤ y.2.1 ∧ y.2.1 ≤ (9223372036854775807 : Int) ∧ (0 : Int) < (2 : Int) ∧ (-9223372036854775808 : Int) ≤ y.1 + (1 : Int) ∧ y.1 + (1 : Int) ≤ (9223372036854775807 : Int) ∧ ∃ (y_4 : Int × Int × List Int × Option Addr × Nat × List ((Option Addr × List Int × Nat) × List Int)), y.1 + (1 : Int) = y_4.1 ∧ y.2.1 / (2 : Int) = y_4.2.1 ∧ A_1 = y_4.snd.snd.2.1 ∧ y.snd.snd.snd.2.2.length + (1 : Nat) = y_4.snd.snd.snd.2.2.length ∧ q_1 = y_4.snd.snd.snd.2.1 ∧ A_1 = y_4.snd.snd.2.1 ∧ y.snd.snd.snd.2.2.length + (1 : Nat) = y_4.snd.snd.snd.2.2.length ∧ q_1 = y_4.snd.snd.snd.2.1 ∧ y.snd.snd.snd.2.2 ++ [((A, [(1 : Int)] ++ y_2.1 ++ y_2.2, q), shaF ([(1 : Int)] ++ y_2.1 ++ y_2.2))] = y_4.snd.snd.snd.2.2 ∧ y.snd.snd.snd.2.2.length + [((A, [(1 : Int)] ++ y_2.1 ++ y_2.2, q), shaF ([(1 : Int)] ++ y_2.1 ++ y_2.2))].length = y_4.snd.snd.snd.2.2.length ∧ (∀ (a : (Option Addr × List Int × Nat) × List Int), a ∈ y_4.snd.snd.snd.2.2 → a ∈ y.snd.snd.snd.2.2 ∨ a ∈ [((A, [(1 : Int)] ++ y_2.1 ++ y_2.2, q), shaF ([(1 : Int)] ++ y_2.1 ++ y_2.2))]) ∧ fldH i x ps = fldH i x ps ∧ (32 : Nat) = (32 : Nat) ∧ shaF ([(1 : Int)] ++ y_2.1 ++ y_2.2) = y_4.snd.2.1 ∧ (32 : Nat) = (32 : Nat) ∧ (0 : Int) ≤ y_4.1 ∧ y_4.1 ≤ (↑ps.length : Int) ∧ y_4.2.1 = (↑(i.toNat / (2 : Nat) ^ y_4.1.toNat) : Int) ∧ y_4.snd.2.1 = fldN i.toNat ps x y_4.1.toNat ∧ ctH y_4.snd.snd.snd.2.2 = pthN i.toNat ps x y_4.1.toNat ∧ rg y_4.snd.2.1 ∧ ((↑ps.length : Int) - y_4.1).toNat < ((↑ps.length : Int) - y.1).toNat) ∧ (decide (y.1 < (↑ps.length : Int)) = false → ∃ (y_1 : Option Addr × Nat × List ((Option Addr × List Int × Nat) × List Int)), y.snd.snd.2.1 = y_1.1 ∧ y.snd.snd.snd.2.2.length = y_1.2.2.length ∧ y.snd.snd.snd.2.1 = y_1.2.1 ∧ (0 : Int) = fldE i ps.length ∧ y.snd.snd.2.1 = y_1.1 ∧ y.snd.snd.snd.2.2.length = y_1.2.2.length ∧ y.snd.snd.snd.2.1 = y_1.2.1 ∧ y.snd.snd.snd.2.2 = y_1.2.2 ∧ y.snd.snd.snd.2.2.length = y_1.2.2.length ∧ (∀ (a : (Option Addr × List Int × Nat) × List Int), a ∈ y_1.2.2 → a ∈ y.snd.snd.snd.2.2) ∧ ctH y_1.2.2 = pth i x ps))) (by kernel_rfl) ?_⟩
  simp only [imin, imax, decide_eq_true_eq, decide_eq_false_iff_not, Prod.forall, Prod.exists, exists_eq_left', exists_eq_left, exists_and_left, exists_and_right, exists_eq_right, exists_eq, exists_eq', true_and, and_true, forall_const, exists_const, eq_self, Bool.not_eq_true, Bool.not_eq_eq_eq_not, Bool.not_true, Bool.not_false, Value.slice.injEq, Option.getD_some, imp_self, implies_true, Option.some.injEq, Addr.mk.injEq, true_or, or_true, List.length_cons, List.length_nil, Nat.zero_add, Nat.reduceAdd]
  intro hx hps hgx hgp
  refine ⟨hgx, hgp, fun hf _ => ⟨fun h => ?_, fun h => ⟨?_, fun d z v B q l hl _ hv h0 h1 hz h2 h3 hgv => ⟨fun h4 => ?_, fun h4 => ?_⟩⟩⟩⟩
  · have hn : ¬ fldOk i ps.length := fun e => h (by rw [fldE, if_pos e])
    exact ⟨none, 0, [], ⟨rfl, rfl, rfl⟩, rfl, rfl, rfl, rfl, rfl, rfl, by rw [pth, if_neg hn]; rfl⟩
  · have ho : fldOk i ps.length := by
      by_cases e : fldOk i ps.length
      · exact e
      · rw [fldE, if_neg e] at h; omega
    have hi := ho.2.1
    exact ⟨x, none, 0, [], ⟨rfl, rfl, rfl⟩, rfl, rfl, rfl, rfl, rfl, rfl, rfl, by omega, by omega, by simp; omega, rfl, rfl, hgx⟩
  · have ho : fldOk i ps.length := by
      by_cases e : fldOk i ps.length
      · exact e
      · rw [fldE, if_neg e] at h; omega
    have h16 := pow16 ho.1
    have hn16 := ho.1
    have hz0 : 0 ≤ z := by rw [hz]; exact Int.natCast_nonneg _
    have hz1 : z ≤ 65536 := by
      rw [hz]
      have := Nat.div_le_self i.toNat (2 ^ d.toNat)
      have := ho.2.2
      have := ho.2.1
      omega
    refine ⟨⟨h0, h4, by omega, by omega⟩, fun u p hp hu _ _ _ hu2 hp2 => ⟨⟨by omega, by omega, fun hb => ?_, fun hb => ?_⟩, fun u' p' hp' hu' _ _ _ e1 e2 => ?_⟩⟩
    · rw [if_pos hb, if_pos hb]; exact ⟨rfl, rfl⟩
    · rw [if_neg hb, if_neg hb]; exact ⟨rfl, rfl⟩
    · have hln : l.length = d.toNat := by rw [← ctH_length, h3, pthN_length]
      have hgd : rg (ps.getD d.toNat (List.replicate 32 0)) := by rw [getD_lt (by omega)]; exact hgp _ (List.getElem_mem _)
      have hg' : rg u' ∧ rg p' := by
        rw [e1, e2, hu2, hp2]
        split
        · exact ⟨hgd, hgv⟩
        · exact ⟨hgv, hgd⟩
      have hent : ([1] ++ u' ++ p', shaF ([1] ++ u' ++ p')) = ent i.toNat ps x d.toNat := by
        rw [ent_eq, entB, ← h2]
        by_cases hb : (i.toNat / 2 ^ d.toNat) % 2 = 0
        · rw [if_neg (by omega)] at e1 e2
          rw [if_pos hb, e1, e2, hu2, hp2]
        · rw [if_pos (by omega)] at e1 e2
          rw [if_neg hb, e1, e2, hu2, hp2]
      have hl65 : ([1] ++ u' ++ p' : List Int).length = 65 := by simp; omega
      have hd1 : (d + 1).toNat = d.toNat + 1 := by omega
      refine ⟨hg'.1, hg'.2, fun hs _ => ⟨by rw [BY1]; omega, fun q0 hq0 => ⟨by rw [BY1]; omega, fun A1 q1 hq1 => ⟨hl65.symm, by rw [BYH]; omega, fun q2 hq2 => ⟨by omega, by omega, by omega, by omega, by omega, _, q2, _, by simp, rfl, by simp, rfl, rfl, by simp, fun a1 a2 b1 b2 hm => ?_, rfl, by omega, by omega, ?_, ?_, ?_, rg_sha _, by omega⟩⟩⟩⟩⟩
      · rcases List.mem_append.1 hm with h | h
        · exact .inl h
        · exact .inr h
      · rw [hz, hd1, Nat.pow_succ, ← Nat.div_div_eq_div_mul]; omega
      · rw [hd1]
        exact congrArg Prod.snd hent
      · rw [ctH_append, h3, hd1, pthN_succ, ← hent]; rfl
  · have ho : fldOk i ps.length := by
      by_cases e : fldOk i ps.length
      · exact e
      · rw [fldE, if_neg e] at h; omega
    exact ⟨q, l, rfl, rfl, h.symm, rfl, rfl, rfl, rfl, fun _ _ _ _ h => h, by rw [pth, if_pos ho, h3, show d.toNat = ps.length by omega]⟩
noncomputable def con_rcpath : Con Xp.P FMp := ⟨26, sg_rcpath, pr_rcpath, ps_rcpath, vc_ok (La := la_rcpath) (Ca := ca_rcpath) 300 (fn := Go.Proofs.Try.f26) (by kernel_rfl) (c := cd_rcpath) (by kernel_rfl) (by kernel_rfl) (by kernel_rfl) (by kernel_rfl) (fun ⟨i, ⟨⟨x, ⟨⟩⟩, ⟨⟨A, ⟨ps, c⟩⟩, ⟨⟩⟩⟩⟩ => vc_rcpath i x A ps c)⟩
noncomputable def cd_rcsame : Code := (Go.Proofs.Try.f24.body).getD .skip
def sg_rcsame : List Arg := [.one (.slr 5), .one (.slr 5)]
def pr_rcsame : SgT FMp sg_rcsame → List Prop
  | ((A, (a, c)), ((B, (b, e)), ())) => (fun (A : Option Addr) (a : List ((Option Addr × List Int × Nat) × List Int)) (c : Nat) (B : Option Addr) (b : List ((Option Addr × List Int × Nat) × List Int)) (e : Nat) => ([a.length ≤ 140737488355328, ∀ x ∈ a, rg x.1.2.1, ∀ x ∈ b, rg x.1.2.1] : List Prop)) A a c B b e
def ps_rcsame : SgT FMp sg_rcsame → PS FMp
  | ((A, (a, c)), ((B, (b, e)), ())) => (fun (A : Option Addr) (a : List ((Option Addr × List Int × Nat) × List Int)) (c : Nat) (B : Option Addr) (b : List ((Option Addr × List Int × Nat) × List Int)) (e : Nat) => (⟨Unit, fun y => [], fun y => one (.bool (decide (ctH a = ctH b))), fun y => [], fun y => []⟩ : PS FMp)) A a c B b e
def la_rcsame : SgT FMp sg_rcsame → List (Nat × (SS FMp → HA FMp))
  | ((A, (a, c)), ((B, (b, e)), ())) => (fun (A : Option Addr) (a : List ((Option Addr × List Int × Nat) × List Int)) (c : Nat) (B : Option Addr) (b : List ((Option Addr × List Int × Nat) × List Int)) (e : Nat) => ([(4, fun S => ⟨Int, fun y => [], fun n y => [(5, some (one (.int .i64 (y))))], fun n y => S.m, fun y => [0 ≤ y, y ≤ a.length, a.length = b.length, (ctH a).take y.toNat = (ctH b).take y.toNat], fun y => (a.length - y).toNat⟩)] : List (Nat × (SS FMp → HA FMp)))) A a c B b e
def ca_rcsame : SgT FMp sg_rcsame → List (Nat × (SS FMp → HA FMp))
  | ((A, (a, c)), ((B, (b, e)), ())) => (fun (A : Option Addr) (a : List ((Option Addr × List Int × Nat) × List Int)) (c : Nat) (B : Option Addr) (b : List ((Option Addr × List Int × Nat) × List Int)) (e : Nat) => ([] : List (Nat × (SS FMp → HA FMp)))) A a c B b e
theorem vc_rcsame (A : Option Addr) (a : List ((Option Addr × List Int × Nat) × List Int)) (c : Nat) (B : Option Addr) (b : List ((Option Addr × List Int × Nat) × List Int)) (e : Nat) : Vc (vc (FM := FMp) Xp 42 [con_same] (la_rcsame ((A, (a, c)), ((B, (b, e)), ()))) (ca_rcsame ((A, (a, c)), ((B, (b, e)), ()))) [] [] [.tmp 4] sg_rcsame pr_rcsame ps_rcsame cd_rcsame 300 ((A, (a, c)), ((B, (b, e)), ()))) := by
  refine ⟨Eq.mpr (β := (∀ (a_1 : (Option Addr × List Int × Nat) × List Int), a_1 ∈ a → a_1.2.length = (32 : Nat)) → (∀ (a : (Option Addr × List Int × Nat) × List Int), a ∈ b → a.2.length = (32 : Nat)) → a.length ≤ (140737488355328 : Nat) → (∀ (x : (Option Addr × List Int × Nat) × List Int), x ∈ a → rg x.fst.2.1) → (∀ (x : (Option Addr × List Int × Nat) × List Int), x ∈ b → rg x.fst.2.1) → ((!decide ((↑a.length : Int) = (↑b.length : Int))) = true → ∃ (y : Unit), false = decide (ctH a = ctH b)) ∧ ((!decide ((↑a.length : Int) = (↑b.length : Int))) = false → (∃ (y : Int), (0 : Int) = y ∧ (0 : Int) ≤ y ∧ y ≤ (↑a.length : Int) ∧ a.length = b.length ∧ List.take y.toNat (ctH a) = List.take y.toNat (ctH b)) ∧ ∀ (y : Int), (0 : Int) ≤ y → y ≤ (↑a.length : Int) → a.length = b.length → List.take y.toNat (ctH a) = List.take y.toNat (ctH b) → (decide (y < (↑a.length : Int)) = true → (0 : Int) ≤ y ∧ y < (↑a.length : Int) ∧ y.toNat < a.length ∧ y.toNat < a.length ∧ (0 : Int) ≤ y ∧ y < (↑b.length : Int) ∧ y.toNat < b.length ∧ y.toNat < b.length ∧ ((!decide ((a.getD y.toNat (((none, [], 0), List.replicate 32 0) : (Option Addr × List Int × Nat) × List Int)).2 = (b.getD y.toNat (((none, [], 0), List.replicate 32 0) : (Option Addr × List Int × Nat) × List Int)).2)) = true → ∃ (y : Unit), false = decide (ctH a = ctH b)) ∧ ((!decide ((a.getD y.toNat (((none, [], 0), List.replicate 32 0) : (Option Addr × List Int × Nat) × List Int)).2 = (b.getD y.toNat (((none, [], 0), List.replicate 32 0) : (Option Addr × List Int × Nat) × List Int)).2)) = false → (0 : Int) ≤ y ∧ y < (↑a.length : Int) ∧ y.toNat < a.length ∧ y.toNat < a.length ∧ (0 : Int) ≤ y ∧ y < (↑b.length : Int) ∧ y.toNat < b.length ∧ y.toNat < b.length ∧ (a.getD y.toNat (((none, [], 0), List.replicate 32 0) : (Option Addr × List Int × Nat) × List Int)).fst.2.1.length = (a.getD y.toNat (((none, [], 0), List.replicate 32 0) : (Option Addr × List Int × Nat) × List Int)).fst.2.1.length ∧ (b.getD y.toNat (((none, [], 0), List.replicate 32 0) : (Option Addr × List Int × Nat) × List Int)).fst.2.1.length = (b.getD y.toNat (((none, [], 0), List.replicate 32 0) : (Option Addr × List Int × Nat) × List Int)).fst.2.1.length ∧ rg (a.getD y.toNat (((none, [], 0), List.replicate 32 0) : (Option Addr × List Int × Nat) × List Int)).fst.2.1 ∧ rg (b.getD y.toNat (((none, [], 0), List.replicate 32 0) : (Option Addr × List Int × Nat) × List Int)).fst.2.1 ∧ ∀ (y_1 : Unit), ((!decide ((a.getD y.toNat (((none, [], 0), List.replicate 32 0) : (Option Addr × List Int × Nat) × List Int)).fst.2.1 = (b.getD y.toNat (((none, [], 0), List.replicate 32 0) : (Option Addr × List Int × Nat) × List Int)).fst.2.1)) = true → ∃ (y : Unit), false = decide (ctH a = ctH b)) ∧ ((!decide ((a.getD y.toNat (((none, [], 0), List.replicate 32 0) : (Option Addr × List Int × Nat) × List Int)).fst.2.1 = (b.getD y.toNat (((none, [], 0), List.replicate 32 0) : (Option Addr × List Int × Nat) × List Int)).fst.2.1)) = false → (-9223372036854775808 : Int) ≤ y + (1 : Int) ∧ y + (1 : Int) ≤ (9223372036854775807 : Int) ∧ ∃ (y_2 : Int), y + (1 : Int) = y_2 ∧ (0 : Int) ≤ y_2 ∧ y_2 ≤ (↑a.length : Int) ∧ a.length = b.length ∧ List.take y_2.toNat (ctH a) = List.take y_2.toNat (ctH b) ∧ ((↑a.length : Int) - y_2).toNat < ((↑a.length : Int) - y).toNat))) ∧ (decide (y < (↑a.length : Int)) = false → ∃ (y : Unit), true = decide (ctH a = ctH b)))) (by kernel_rfl) ?_⟩
  simp only [imin, imax, decide_eq_true_eq, decide_eq_false_iff_not, Prod.forall, Prod.exists, exists_eq_left', exists_eq_left, exists_and_left, exists_and_right, exists_eq_right, exists_eq, exists_eq', true_and, and_true, forall_const, exists_const, eq_self, Bool.not_eq_true, Bool.not_eq_eq_eq_not, Bool.not_true, Bool.not_false, Value.slice.injEq, Option.getD_some, imp_self, implies_true, Option.some.injEq, Addr.mk.injEq, true_or, or_true, List.length_cons, List.length_nil, Nat.zero_add, Nat.reduceAdd]
  intro ha hb hn ga gb
  have la := ctH_length a
  have lb := ctH_length b
  refine ⟨fun h => ?_, fun h => ⟨⟨by omega, by omega, by omega, by simp⟩, fun k h0 h1 h2 h3 => ⟨fun h4 => ?_, fun h4 => ?_⟩⟩⟩
  · symm
    simp only [decide_eq_false_iff_not]
    intro e
    have := congrArg List.length e
    omega
  · have na : k.toNat < a.length := by omega
    have nb : k.toNat < b.length := by omega
    have ea := ctH_get a na
    have eb := ctH_get b nb
    have ma : a.getD k.toNat ((none, [], 0), List.replicate 32 0) ∈ a := by rw [getD_lt na]; exact List.getElem_mem _
    have mb : b.getD k.toNat ((none, [], 0), List.replicate 32 0) ∈ b := by rw [getD_lt nb]; exact List.getElem_mem _
    generalize a.getD k.toNat ((none, [], 0), List.replicate 32 0) = p at ea ma ⊢
    generalize b.getD k.toNat ((none, [], 0), List.replicate 32 0) = r at eb mb ⊢
    have ne : (p.1.2.1, p.2) ≠ (r.1.2.1, r.2) → false = decide (ctH a = ctH b) := by
      intro hne
      symm
      simp only [decide_eq_false_iff_not]
      intro e
      rw [e, eb] at ea
      exact hne (by simpa using ea.symm)
    refine ⟨h0, h4, na, na, h0, by omega, nb, nb, fun h5 => ne (fun e => h5 (Prod.mk.inj e).2), fun h5 => ⟨h0, h4, na, na, h0, by omega, nb, nb, ga p.1.1 p.1.2.1 p.1.2.2 p.2 ma, gb r.1.1 r.1.2.1 r.1.2.2 r.2 mb, fun h6 => ne (fun e => h6 (Prod.mk.inj e).1), fun h6 => ⟨by omega, by omega, by omega, by omega, h2, ?_, by omega⟩⟩⟩
    rw [show (k + 1).toNat = k.toNat + 1 by omega, List.take_add_one, List.take_add_one, h3, ea, eb, h5, h6]
  · symm
    simp only [decide_eq_true_eq]
    rw [List.take_of_length_le (by omega), List.take_of_length_le (by omega)] at h3
    exact h3
noncomputable def con_rcsame : Con Xp.P FMp := ⟨24, sg_rcsame, pr_rcsame, ps_rcsame, vc_ok (La := la_rcsame) (Ca := ca_rcsame) 300 (fn := Go.Proofs.Try.f24) (by kernel_rfl) (c := cd_rcsame) (by kernel_rfl) (by kernel_rfl) (by kernel_rfl) (by kernel_rfl) (fun ⟨⟨A, ⟨a, c⟩⟩, ⟨⟨B, ⟨b, e⟩⟩, ⟨⟩⟩⟩ => vc_rcsame A a c B b e)⟩

end Go.Pw
