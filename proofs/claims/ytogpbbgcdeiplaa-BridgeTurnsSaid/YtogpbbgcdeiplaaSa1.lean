/-
  Walks by computing. No condition.
-/
import Derived.Test.YtogpbbgcdeiplaaZP
import Derived.Test.YtogpbbgcdeiplaaPU
set_option linter.all false
set_option maxRecDepth 100000
set_option maxHeartbeats 1000000
namespace Go.Pw
open Go Go.Px Go.RowKit

def setId : List (Pc FMp) → Nat → Ce FMp → List (Pc FMp)
  | [], _, _ => []
  | .bk i c ty :: r, id, c' => bif Nat.beq i id then .bk i c' ty :: r else .bk i c ty :: setId r id c'
  | .sl i n q c e s :: r, id, c' => bif Nat.beq i id then .sl i n q c' e s :: r else .sl i n q c e s :: setId r id c'
  | p :: r, id, c' => p :: setId r id c'
theorem imin : IntKind.i64.min = -9223372036854775808 := by kernel_rfl
theorem imax : IntKind.i64.max = 9223372036854775807 := by kernel_rfl
def zz (k : IntKind) (l : List Int) (n : Nat) : Ce FMp := [.b (.iz k l n)]

noncomputable def cd_factors : Code := (Go.Proofs.Try.f131.body).getD .skip
def sg_factors : List Arg := []
def pr_factors : SgT FMp sg_factors → List Prop
  | () => ([] : List Prop)
def ps_factors : SgT FMp sg_factors → PS FMp
  | () => (⟨Unit, fun y => [], fun y => .v (.ag (zz .u32 K256 64)), fun y => [], fun y => [K256.length = 64]⟩ : PS FMp)
def la_factors : SgT FMp sg_factors → List (Nat × (SS FMp → HA FMp))
  | () => ([] : List (Nat × (SS FMp → HA FMp)))
def ca_factors : SgT FMp sg_factors → List (Nat × (SS FMp → HA FMp))
  | () => ([] : List (Nat × (SS FMp → HA FMp)))
theorem vc_factors  : Vc (vc (FM := FMp) Xp 2 [] (la_factors ()) (ca_factors ()) [] [] [.cell 0 196] sg_factors pr_factors ps_factors cd_factors 300 ()) := by
  refine ⟨Eq.mpr (β := ∀ (b : Nat), ∃ (y : Unit), ((((((((((((((((((((((((((((((((((((((((((((((((((((((((((((((((List.replicate (64 : Nat) (0 : Int)).set (0 : Nat) (1116352408 : Int)).set (1 : Nat) (1899447441 : Int)).set (2 : Nat) (3049323471 : Int)).set (3 : Nat) (3921009573 : Int)).set (4 : Nat) (961987163 : Int)).set (5 : Nat) (1508970993 : Int)).set (6 : Nat) (2453635748 : Int)).set (7 : Nat) (2870763221 : Int)).set (8 : Nat) (3624381080 : Int)).set (9 : Nat) (310598401 : Int)).set (10 : Nat) (607225278 : Int)).set (11 : Nat) (1426881987 : Int)).set (12 : Nat) (1925078388 : Int)).set (13 : Nat) (2162078206 : Int)).set (14 : Nat) (2614888103 : Int)).set (15 : Nat) (3248222580 : Int)).set (16 : Nat) (3835390401 : Int)).set (17 : Nat) (4022224774 : Int)).set (18 : Nat) (264347078 : Int)).set (19 : Nat) (604807628 : Int)).set (20 : Nat) (770255983 : Int)).set (21 : Nat) (1249150122 : Int)).set (22 : Nat) (1555081692 : Int)).set (23 : Nat) (1996064986 : Int)).set (24 : Nat) (2554220882 : Int)).set (25 : Nat) (2821834349 : Int)).set (26 : Nat) (2952996808 : Int)).set (27 : Nat) (3210313671 : Int)).set (28 : Nat) (3336571891 : Int)).set (29 : Nat) (3584528711 : Int)).set (30 : Nat) (113926993 : Int)).set (31 : Nat) (338241895 : Int)).set (32 : Nat) (666307205 : Int)).set (33 : Nat) (773529912 : Int)).set (34 : Nat) (1294757372 : Int)).set (35 : Nat) (1396182291 : Int)).set (36 : Nat) (1695183700 : Int)).set (37 : Nat) (1986661051 : Int)).set (38 : Nat) (2177026350 : Int)).set (39 : Nat) (2456956037 : Int)).set (40 : Nat) (2730485921 : Int)).set (41 : Nat) (2820302411 : Int)).set (42 : Nat) (3259730800 : Int)).set (43 : Nat) (3345764771 : Int)).set (44 : Nat) (3516065817 : Int)).set (45 : Nat) (3600352804 : Int)).set (46 : Nat) (4094571909 : Int)).set (47 : Nat) (275423344 : Int)).set (48 : Nat) (430227734 : Int)).set (49 : Nat) (506948616 : Int)).set (50 : Nat) (659060556 : Int)).set (51 : Nat) (883997877 : Int)).set (52 : Nat) (958139571 : Int)).set (53 : Nat) (1322822218 : Int)).set (54 : Nat) (1537002063 : Int)).set (55 : Nat) (1747873779 : Int)).set (56 : Nat) (1955562222 : Int)).set (57 : Nat) (2024104815 : Int)).set (58 : Nat) (2227730452 : Int)).set (59 : Nat) (2361852424 : Int)).set (60 : Nat) (2428436474 : Int)).set (61 : Nat) (2756734187 : Int)).set (62 : Nat) (3204031479 : Int)).set (63 : Nat) (3329325298 : Int) = K256 ∧ (64 : Nat) = (64 : Nat) ∧ (64 : Nat) = (64 : Nat)) (by kernel_rfl) ?_⟩
  simp only [imin, imax, decide_eq_true_eq, decide_eq_false_iff_not, Prod.forall, Prod.exists, exists_eq_left', exists_eq_left, exists_and_left, exists_and_right, exists_eq_right, exists_eq, exists_eq', true_and, and_true, forall_const, exists_const, eq_self, Bool.not_eq_true, Bool.not_eq_eq_eq_not, Bool.not_true, Bool.not_false, Value.slice.injEq, Option.getD_some]
  kernel_rfl
noncomputable def con_factors : Con Xp.P FMp := ⟨131, sg_factors, pr_factors, ps_factors, vc_ok (La := la_factors) (Ca := ca_factors) 300 (fn := Go.Proofs.Try.f131) (by kernel_rfl) (c := cd_factors) (by kernel_rfl) (by kernel_rfl) (by kernel_rfl) (by kernel_rfl) (fun ⟨⟩ => vc_factors )⟩
noncomputable def cd_first : Code := (Go.Proofs.Try.f132.body).getD .skip
def sg_first : List Arg := []
def pr_first : SgT FMp sg_first → List Prop
  | () => ([] : List Prop)
def ps_first : SgT FMp sg_first → PS FMp
  | () => (⟨Unit, fun y => [], fun y => .v (.ag (zz .u32 H256 8)), fun y => [], fun y => [H256.length = 8]⟩ : PS FMp)
def la_first : SgT FMp sg_first → List (Nat × (SS FMp → HA FMp))
  | () => ([] : List (Nat × (SS FMp → HA FMp)))
def ca_first : SgT FMp sg_first → List (Nat × (SS FMp → HA FMp))
  | () => ([] : List (Nat × (SS FMp → HA FMp)))
theorem vc_first  : Vc (vc (FM := FMp) Xp 2 [] (la_first ()) (ca_first ()) [] [] [.cell 0 172] sg_first pr_first ps_first cd_first 300 ()) := by
  refine ⟨Eq.mpr (β := ∀ (b : Nat), ∃ (y : Unit), ((((((((List.replicate (8 : Nat) (0 : Int)).set (0 : Nat) (1779033703 : Int)).set (1 : Nat) (3144134277 : Int)).set (2 : Nat) (1013904242 : Int)).set (3 : Nat) (2773480762 : Int)).set (4 : Nat) (1359893119 : Int)).set (5 : Nat) (2600822924 : Int)).set (6 : Nat) (528734635 : Int)).set (7 : Nat) (1541459225 : Int) = H256 ∧ (8 : Nat) = (8 : Nat) ∧ (8 : Nat) = (8 : Nat)) (by kernel_rfl) ?_⟩
  simp only [imin, imax, decide_eq_true_eq, decide_eq_false_iff_not, Prod.forall, Prod.exists, exists_eq_left', exists_eq_left, exists_and_left, exists_and_right, exists_eq_right, exists_eq, exists_eq', true_and, and_true, forall_const, exists_const, eq_self, Bool.not_eq_true, Bool.not_eq_eq_eq_not, Bool.not_true, Bool.not_false, Value.slice.injEq, Option.getD_some]
  kernel_rfl
noncomputable def con_first : Con Xp.P FMp := ⟨132, sg_first, pr_first, ps_first, vc_ok (La := la_first) (Ca := ca_first) 300 (fn := Go.Proofs.Try.f132) (by kernel_rfl) (c := cd_first) (by kernel_rfl) (by kernel_rfl) (by kernel_rfl) (by kernel_rfl) (fun ⟨⟩ => vc_first )⟩
noncomputable def cd_kays : Code := (Go.Proofs.Try.f118.body).getD .skip
def sg_kays : List Arg := []
def pr_kays : SgT FMp sg_kays → List Prop
  | () => ([] : List Prop)
def ps_kays : SgT FMp sg_kays → PS FMp
  | () => (⟨Unit, fun y => [], fun y => .v (.ag (zz .u32 K256 64)), fun y => [], fun y => [K256.length = 64]⟩ : PS FMp)
def la_kays : SgT FMp sg_kays → List (Nat × (SS FMp → HA FMp))
  | () => ([] : List (Nat × (SS FMp → HA FMp)))
def ca_kays : SgT FMp sg_kays → List (Nat × (SS FMp → HA FMp))
  | () => ([] : List (Nat × (SS FMp → HA FMp)))
theorem vc_kays  : Vc (vc (FM := FMp) Xp 2 [] (la_kays ()) (ca_kays ()) [] [] [.cell 0 196] sg_kays pr_kays ps_kays cd_kays 300 ()) := by
  refine ⟨Eq.mpr (β := ∀ (b : Nat), ∃ (y : Unit), ((((((((((((((((((((((((((((((((((((((((((((((((((((((((((((((((List.replicate (64 : Nat) (0 : Int)).set (0 : Nat) (1116352408 : Int)).set (1 : Nat) (1899447441 : Int)).set (2 : Nat) (3049323471 : Int)).set (3 : Nat) (3921009573 : Int)).set (4 : Nat) (961987163 : Int)).set (5 : Nat) (1508970993 : Int)).set (6 : Nat) (2453635748 : Int)).set (7 : Nat) (2870763221 : Int)).set (8 : Nat) (3624381080 : Int)).set (9 : Nat) (310598401 : Int)).set (10 : Nat) (607225278 : Int)).set (11 : Nat) (1426881987 : Int)).set (12 : Nat) (1925078388 : Int)).set (13 : Nat) (2162078206 : Int)).set (14 : Nat) (2614888103 : Int)).set (15 : Nat) (3248222580 : Int)).set (16 : Nat) (3835390401 : Int)).set (17 : Nat) (4022224774 : Int)).set (18 : Nat) (264347078 : Int)).set (19 : Nat) (604807628 : Int)).set (20 : Nat) (770255983 : Int)).set (21 : Nat) (1249150122 : Int)).set (22 : Nat) (1555081692 : Int)).set (23 : Nat) (1996064986 : Int)).set (24 : Nat) (2554220882 : Int)).set (25 : Nat) (2821834349 : Int)).set (26 : Nat) (2952996808 : Int)).set (27 : Nat) (3210313671 : Int)).set (28 : Nat) (3336571891 : Int)).set (29 : Nat) (3584528711 : Int)).set (30 : Nat) (113926993 : Int)).set (31 : Nat) (338241895 : Int)).set (32 : Nat) (666307205 : Int)).set (33 : Nat) (773529912 : Int)).set (34 : Nat) (1294757372 : Int)).set (35 : Nat) (1396182291 : Int)).set (36 : Nat) (1695183700 : Int)).set (37 : Nat) (1986661051 : Int)).set (38 : Nat) (2177026350 : Int)).set (39 : Nat) (2456956037 : Int)).set (40 : Nat) (2730485921 : Int)).set (41 : Nat) (2820302411 : Int)).set (42 : Nat) (3259730800 : Int)).set (43 : Nat) (3345764771 : Int)).set (44 : Nat) (3516065817 : Int)).set (45 : Nat) (3600352804 : Int)).set (46 : Nat) (4094571909 : Int)).set (47 : Nat) (275423344 : Int)).set (48 : Nat) (430227734 : Int)).set (49 : Nat) (506948616 : Int)).set (50 : Nat) (659060556 : Int)).set (51 : Nat) (883997877 : Int)).set (52 : Nat) (958139571 : Int)).set (53 : Nat) (1322822218 : Int)).set (54 : Nat) (1537002063 : Int)).set (55 : Nat) (1747873779 : Int)).set (56 : Nat) (1955562222 : Int)).set (57 : Nat) (2024104815 : Int)).set (58 : Nat) (2227730452 : Int)).set (59 : Nat) (2361852424 : Int)).set (60 : Nat) (2428436474 : Int)).set (61 : Nat) (2756734187 : Int)).set (62 : Nat) (3204031479 : Int)).set (63 : Nat) (3329325298 : Int) = K256 ∧ (64 : Nat) = (64 : Nat) ∧ (64 : Nat) = (64 : Nat)) (by kernel_rfl) ?_⟩
  simp only [imin, imax, decide_eq_true_eq, decide_eq_false_iff_not, Prod.forall, Prod.exists, exists_eq_left', exists_eq_left, exists_and_left, exists_and_right, exists_eq_right, exists_eq, exists_eq', true_and, and_true, forall_const, exists_const, eq_self, Bool.not_eq_true, Bool.not_eq_eq_eq_not, Bool.not_true, Bool.not_false, Value.slice.injEq, Option.getD_some]
  kernel_rfl
noncomputable def con_kays : Con Xp.P FMp := ⟨118, sg_kays, pr_kays, ps_kays, vc_ok (La := la_kays) (Ca := ca_kays) 300 (fn := Go.Proofs.Try.f118) (by kernel_rfl) (c := cd_kays) (by kernel_rfl) (by kernel_rfl) (by kernel_rfl) (by kernel_rfl) (fun ⟨⟩ => vc_kays )⟩
noncomputable def cd_rotl : Code := (Go.Proofs.Try.f145.body).getD .skip
def sg_rotl : List Arg := [.one (.int .u32), .one (.int .i64)]
def pr_rotl : SgT FMp sg_rotl → List Prop
  | (x, (k, ())) => (fun (x k : Int) => ([] : List Prop)) x k
def ps_rotl : SgT FMp sg_rotl → PS FMp
  | (x, (k, ())) => (fun (x k : Int) => (⟨Unit, fun y => [], fun y => one (.int .u32 (rotl x k)), fun y => [], fun y => []⟩ : PS FMp)) x k
def la_rotl : SgT FMp sg_rotl → List (Nat × (SS FMp → HA FMp))
  | (x, (k, ())) => (fun (x k : Int) => ([] : List (Nat × (SS FMp → HA FMp)))) x k
def ca_rotl : SgT FMp sg_rotl → List (Nat × (SS FMp → HA FMp))
  | (x, (k, ())) => (fun (x k : Int) => ([] : List (Nat × (SS FMp → HA FMp)))) x k
theorem vc_rotl (x k : Int) : Vc (vc (FM := FMp) Xp 17 [] (la_rotl (x, (k, ()))) (ca_rotl (x, (k, ()))) [] [] [.tmp 4] sg_rotl pr_rotl ps_rotl cd_rotl 300 (x, (k, ()))) := by
  refine ⟨Eq.mpr (β := (0 : Int) ≤ bnd IntKind.u64 (IntKind.u64.wrap k) (31 : Int) ∧ (0 : Int) ≤ IntKind.u64.wrap ((32 : Int) - bnd IntKind.u64 (IntKind.u64.wrap k) (31 : Int)) ∧ ∃ (y : Unit), bor IntKind.u32 (shlV IntKind.u32 x (bnd IntKind.u64 (IntKind.u64.wrap k) (31 : Int))) (shrV IntKind.u32 x (IntKind.u64.wrap ((32 : Int) - bnd IntKind.u64 (IntKind.u64.wrap k) (31 : Int)))) = rotl x k) (by kernel_rfl) ?_⟩
  simp only [imin, imax, decide_eq_true_eq, decide_eq_false_iff_not, Prod.forall, Prod.exists, exists_eq_left', exists_eq_left, exists_and_left, exists_and_right, exists_eq_right, exists_eq, exists_eq', true_and, and_true, forall_const, exists_const, eq_self, Bool.not_eq_true, Bool.not_eq_eq_eq_not, Bool.not_true, Bool.not_false, Value.slice.injEq, Option.getD_some]
  exact ⟨bnd_nn _ _, wrap_nn _, rfl⟩
noncomputable def con_rotl : Con Xp.P FMp := ⟨145, sg_rotl, pr_rotl, ps_rotl, vc_ok (La := la_rotl) (Ca := ca_rotl) 300 (fn := Go.Proofs.Try.f145) (by kernel_rfl) (c := cd_rotl) (by kernel_rfl) (by kernel_rfl) (by kernel_rfl) (by kernel_rfl) (fun ⟨x, ⟨k, ⟨⟩⟩⟩ => vc_rotl x k)⟩
noncomputable def cd_turn : Code := (Go.Proofs.Try.f119.body).getD .skip
def sg_turn : List Arg := [.one (.int .u32), .one (.int .u64)]
def pr_turn : SgT FMp sg_turn → List Prop
  | (x, (n, ())) => (fun (x n : Int) => ([0 ≤ n, n ≤ 32] : List Prop)) x n
def ps_turn : SgT FMp sg_turn → PS FMp
  | (x, (n, ())) => (fun (x n : Int) => (⟨Unit, fun y => [], fun y => one (.int .u32 (rotr x n)), fun y => [], fun y => []⟩ : PS FMp)) x n
def la_turn : SgT FMp sg_turn → List (Nat × (SS FMp → HA FMp))
  | (x, (n, ())) => (fun (x n : Int) => ([] : List (Nat × (SS FMp → HA FMp)))) x n
def ca_turn : SgT FMp sg_turn → List (Nat × (SS FMp → HA FMp))
  | (x, (n, ())) => (fun (x n : Int) => ([] : List (Nat × (SS FMp → HA FMp)))) x n
theorem vc_turn (x n : Int) : Vc (vc (FM := FMp) Xp 13 [] (la_turn (x, (n, ()))) (ca_turn (x, (n, ()))) [] [] [.tmp 4] sg_turn pr_turn ps_turn cd_turn 300 (x, (n, ()))) := by
  refine ⟨Eq.mpr (β := (0 : Int) ≤ n → n ≤ (32 : Int) → (0 : Int) ≤ n ∧ (0 : Int) ≤ IntKind.u64.wrap ((32 : Int) - n) ∧ ∃ (y : Unit), bor IntKind.u32 (shrV IntKind.u32 x n) (shlV IntKind.u32 x (IntKind.u64.wrap ((32 : Int) - n))) = rotr x n) (by kernel_rfl) ?_⟩
  simp only [imin, imax, decide_eq_true_eq, decide_eq_false_iff_not, Prod.forall, Prod.exists, exists_eq_left', exists_eq_left, exists_and_left, exists_and_right, exists_eq_right, exists_eq, exists_eq', true_and, and_true, forall_const, exists_const, eq_self, Bool.not_eq_true, Bool.not_eq_eq_eq_not, Bool.not_true, Bool.not_false, Value.slice.injEq, Option.getD_some]
  exact fun h _ => ⟨h, wrap_nn _, rfl⟩
noncomputable def con_turn : Con Xp.P FMp := ⟨119, sg_turn, pr_turn, ps_turn, vc_ok (La := la_turn) (Ca := ca_turn) 300 (fn := Go.Proofs.Try.f119) (by kernel_rfl) (c := cd_turn) (by kernel_rfl) (by kernel_rfl) (by kernel_rfl) (by kernel_rfl) (fun ⟨x, ⟨n, ⟨⟩⟩⟩ => vc_turn x n)⟩
noncomputable def cd_turned : Code := (Go.Proofs.Try.f143.body).getD .skip
def sg_turned : List Arg := [.one (.int .u32), .one (.sli .i64)]
def pr_turned : SgT FMp sg_turned → List Prop
  | (x, ((A, (l, c)), ())) => (fun (x : Int) (A : Option Addr) (l : List Int) (c : Nat) => ([∀ j, 0 ≤ l.getD j 0 ∧ l.getD j 0 < 32, l.length ≤ 100] : List Prop)) x A l c
def ps_turned : SgT FMp sg_turned → PS FMp
  | (x, ((A, (l, c)), ())) => (fun (x : Int) (A : Option Addr) (l : List Int) (c : Nat) => (⟨Unit, fun y => [], fun y => one (.int .u32 (turnS x l)), fun y => [], fun y => []⟩ : PS FMp)) x A l c
def la_turned : SgT FMp sg_turned → List (Nat × (SS FMp → HA FMp))
  | (x, ((A, (l, c)), ())) => (fun (x : Int) (A : Option Addr) (l : List Int) (c : Nat) => ([(3, fun S => ⟨Int × Int, fun y => [], fun n y => [(5, some (one (.int .u32 (y.2)))), (10, some (one (.int .i64 (y.1))))], fun n y => S.m, fun y => [0 ≤ y.1, y.1 ≤ l.length, y.2 = itN (tuS x l) y.1.toNat 0], fun y => (l.length - y.1).toNat⟩)] : List (Nat × (SS FMp → HA FMp)))) x A l c
def ca_turned : SgT FMp sg_turned → List (Nat × (SS FMp → HA FMp))
  | (x, ((A, (l, c)), ())) => (fun (x : Int) (A : Option Addr) (l : List Int) (c : Nat) => ([] : List (Nat × (SS FMp → HA FMp)))) x A l c
theorem vc_turned (x : Int) (A : Option Addr) (l : List Int) (c : Nat) : Vc (vc (FM := FMp) Xp 22 [con_rotl] (la_turned (x, ((A, (l, c)), ()))) (ca_turned (x, ((A, (l, c)), ()))) [] [] [.tmp 4] sg_turned pr_turned ps_turned cd_turned 300 (x, ((A, (l, c)), ()))) := by
  refine ⟨Eq.mpr (β := (A.isNone = true → l = []) → (∀ (j : Nat), (0 : Int) ≤ l.getD j (0 : Int) ∧ l.getD j (0 : Int) < (32 : Int)) → l.length ≤ (100 : Nat) → (∃ (y : Int × Int), (0 : Int) = y.2 ∧ (0 : Int) = y.1 ∧ (0 : Int) ≤ y.1 ∧ y.1 ≤ (↑l.length : Int) ∧ y.2 = itN (tuS x l) y.1.toNat (0 : Int)) ∧ ∀ (y : Int × Int), (0 : Int) ≤ y.1 → y.1 ≤ (↑l.length : Int) → y.2 = itN (tuS x l) y.1.toNat (0 : Int) → (decide (y.1 < (↑l.length : Int)) = true → (0 : Int) ≤ y.1 ∧ y.1 < (↑l.length : Int) ∧ y.1.toNat < l.length ∧ y.1.toNat < l.length ∧ (-9223372036854775808 : Int) ≤ (0 : Int) - l.getD y.1.toNat (0 : Int) ∧ (0 : Int) - l.getD y.1.toNat (0 : Int) ≤ (9223372036854775807 : Int) ∧ ∀ (y_1 : Unit), (-9223372036854775808 : Int) ≤ y.1 + (1 : Int) ∧ y.1 + (1 : Int) ≤ (9223372036854775807 : Int) ∧ ∃ (y_2 : Int × Int), bxr IntKind.u32 y.2 (rotl x ((0 : Int) - l.getD y.1.toNat (0 : Int))) = y_2.2 ∧ y.1 + (1 : Int) = y_2.1 ∧ (0 : Int) ≤ y_2.1 ∧ y_2.1 ≤ (↑l.length : Int) ∧ y_2.2 = itN (tuS x l) y_2.1.toNat (0 : Int) ∧ ((↑l.length : Int) - y_2.1).toNat < ((↑l.length : Int) - y.1).toNat) ∧ (decide (y.1 < (↑l.length : Int)) = false → ∃ (y_1 : Unit), y.2 = turnS x l)) (by kernel_rfl) ?_⟩
  simp only [imin, imax, decide_eq_true_eq, decide_eq_false_iff_not, Prod.forall, Prod.exists, exists_eq_left', exists_eq_left, exists_and_left, exists_and_right, exists_eq_right, exists_eq, exists_eq', true_and, and_true, forall_const, exists_const, eq_self, Bool.not_eq_true, Bool.not_eq_eq_eq_not, Bool.not_true, Bool.not_false, Value.slice.injEq, Option.getD_some]
  intro _ hs hn
  refine ⟨⟨by omega, by omega, rfl⟩, ?_⟩
  intro i z h1 h2 h3
  refine ⟨fun h => ?_, fun h => ?_⟩
  · have hx := hs i.toNat
    refine ⟨h1, h, by omega, by omega, by omega, by omega, by omega, by omega, by omega, by omega, ?_, by omega⟩
    rw [h3, show (i + 1).toNat = i.toNat + 1 by omega]; rfl
  · rw [h3, show i.toNat = l.length by omega]; rfl
noncomputable def con_turned : Con Xp.P FMp := ⟨143, sg_turned, pr_turned, ps_turned, vc_ok (La := la_turned) (Ca := ca_turned) 300 (fn := Go.Proofs.Try.f143) (by kernel_rfl) (c := cd_turned) (by kernel_rfl) (by kernel_rfl) (by kernel_rfl) (by kernel_rfl) (fun ⟨x, ⟨⟨A, ⟨l, c⟩⟩, ⟨⟩⟩⟩ => vc_turned x A l c)⟩

end Go.Pw
