/-
  Walks by computing. No condition.
-/
import Derived.Test.YtogpbbgcdeiplaaMe2
set_option linter.all false
set_option maxRecDepth 100000
set_option maxHeartbeats 1000000
namespace Go.Pw
open Go Go.Px Go.RowKit
attribute [local irreducible] shaF

def la_h (S : SS FMp) : List Int := match S.m with
  | .sl _ _ _ [.b (.iz _ l _)] _ _ :: _ => l
  | _ => []
def e16 (a b : Int) : List Int := ei8 a ++ ei8 b
def leafF (b : List Int) : List Int := shaF ([0] ++ b)
def pairF (u v : List Int) : List Int := shaF ([1] ++ u ++ v)
def cntF (n : Int) : List Int := frF 32 32 [0, 0, 0, n]
def topF (u v : List Int) (n : Int) : List Int := pairF (pairF u v) (cntF n)
def sfoB (i : Int) (ps : List (List Int)) (cnt : Int) : Bool := decide (ps.length = 5) && decide (cnt ≤ 32) && decide (fldE i 5 = 0)
def sfoH (i : Int) (b : List Int) (ps : List (List Int)) (cnt : Int) : List Int := if ps.length = 5 ∧ cnt ≤ 32 then fldH i (leafF b) ps else List.replicate 32 0
def ckO (root : List Int) (i to am : Int) (ps : List (List Int)) (oth : List Int) (cnt : Int) : Bool :=
  sfoB i ps cnt && decide (IntKind.u64.wrap i < cnt) && decide (topF oth (sfoH i (e16 to am) ps cnt) cnt = root)


theorem e16_length (a b : Int) : (e16 a b).length = 16 := by simp [e16, ei8_length]
theorem wrR2 (a b : Int) : wrR [a, b] 2 = e16 a b := by simp [wrR, itN, catS, e16]
theorem itN_e8 (x : Int) : ∀ j, (itN (e8S x) j []).length = j
  | 0 => rfl
  | j + 1 => by simp [itN, e8S, itN_e8 x j]
theorem e16_range (a b : Int) : ∀ y ∈ e16 a b, 0 ≤ y ∧ y < 256 := fun y hy => by
  rcases List.mem_append.1 hy with h | h
  · exact ei8_range a y h
  · exact ei8_range b y h
noncomputable def cd_leaf : Code := (Go.Proofs.Try.f97.body).getD .skip
def sg_leaf : List Arg := [.one (.sli .u8)]
def pr_leaf : SgT FMp sg_leaf → List Prop
  | ((A, (b, c)), ()) => (fun (A : Option Addr) (b : List Int) (c : Nat) => ([b.length ≤ 1000000] : List Prop)) A b c
def ps_leaf : SgT FMp sg_leaf → PS FMp
  | ((A, (b, c)), ()) => (fun (A : Option Addr) (b : List Int) (c : Nat) => (⟨Unit, fun y => [], fun y => .v (.ag (zz .u8 (leafF b) 32)), fun y => [], fun y => [(leafF b).length = 32]⟩ : PS FMp)) A b c
def la_leaf : SgT FMp sg_leaf → List (Nat × (SS FMp → HA FMp))
  | ((A, (b, c)), ()) => (fun (A : Option Addr) (b : List Int) (c : Nat) => ([] : List (Nat × (SS FMp → HA FMp)))) A b c
def ca_leaf : SgT FMp sg_leaf → List (Nat × (SS FMp → HA FMp))
  | ((A, (b, c)), ()) => (fun (A : Option Addr) (b : List Int) (c : Nat) => ([] : List (Nat × (SS FMp → HA FMp)))) A b c
theorem vc_leaf (A : Option Addr) (b : List Int) (c : Nat) : Vc (vc (FM := FMp) Xp 8 [con_concat_bytes, con_sum] (la_leaf ((A, (b, c)), ())) (ca_leaf ((A, (b, c)), ())) [] [] [.cell 2 40] sg_leaf pr_leaf ps_leaf cd_leaf 300 ((A, (b, c)), ())) := by
  refine ⟨Eq.mpr (β := (A.isNone = true → b = []) → b.length ≤ (1000000 : Nat) → ∀ (b_1 b_2 b_3 : Nat), (2 : Nat) = (2 : Nat) ∧ (2 : Nat) = [(some (Addr.mk b_2 (0 : Nat) none), [(0 : Int)], (1 : Nat)), (A, b, c)].length ∧ (1 : Nat) = (1 : Nat) ∧ b.length = b.length ∧ (catL [(some (Addr.mk b_2 (0 : Nat) none), [(0 : Int)], (1 : Nat)), (A, b, c)]).length ≤ (140737488355328 : Nat) ∧ [(some (Addr.mk b_2 (0 : Nat) none), [(0 : Int)], (1 : Nat)), (A, b, c)].length ≤ (1000 : Nat) ∧ ∀ (y : Option Addr × Nat), (catL [(some (Addr.mk b_2 (0 : Nat) none), [(0 : Int)], (1 : Nat)), (A, b, c)]).length = (catL [(some (Addr.mk b_2 (0 : Nat) none), [(0 : Int)], (1 : Nat)), (A, b, c)]).length → (catL [(some (Addr.mk b_2 (0 : Nat) none), [(0 : Int)], (1 : Nat)), (A, b, c)]).length ≤ y.2 → (catL [(some (Addr.mk b_2 (0 : Nat) none), [(0 : Int)], (1 : Nat)), (A, b, c)]).length = (catL [(some (Addr.mk b_2 (0 : Nat) none), [(0 : Int)], (1 : Nat)), (A, b, c)]).length ∧ (catL [(some (Addr.mk b_2 (0 : Nat) none), [(0 : Int)], (1 : Nat)), (A, b, c)]).length ≤ (140737488355000 : Nat) ∧ ∀ (y : Unit), (shaF (catL [(some (Addr.mk b_2 (0 : Nat) none), [(0 : Int)], (1 : Nat)), (A, b, c)])).length = (32 : Nat) → (shaF (catL [(some (Addr.mk b_2 (0 : Nat) none), [(0 : Int)], (1 : Nat)), (A, b, c)])).length = (32 : Nat) → ∃ (y : Unit), shaF (catL [(some (Addr.mk b_2 (0 : Nat) none), [(0 : Int)], (1 : Nat)), (A, b, c)]) = leafF b ∧ (32 : Nat) = (32 : Nat) ∧ (leafF b).length = (32 : Nat)) (by kernel_rfl) ?_⟩
  simp only [imin, imax, decide_eq_true_eq, decide_eq_false_iff_not, Prod.forall, Prod.exists, exists_eq_left', exists_eq_left, exists_and_left, exists_and_right, exists_eq_right, exists_eq, exists_eq', true_and, and_true, forall_const, exists_const, eq_self, Bool.not_eq_true, Bool.not_eq_eq_eq_not, Bool.not_true, Bool.not_false, Value.slice.injEq, Option.getD_some, imp_self, implies_true, Option.some.injEq, Addr.mk.injEq, true_or, or_true, List.length_cons, List.length_nil, Nat.zero_add, Nat.reduceAdd]
  intro _ hn B1
  have e : ∀ (X Y : Option Addr) (p q : Nat), catL [(X, [0], p), (Y, b, q)] = [0] ++ b := by intros; simp [catL]
  simp only [e]
  refine ⟨by simp; omega, by omega, fun r hr => ⟨by simp; omega, fun h _ => ⟨rfl, h⟩⟩⟩
noncomputable def con_leaf : Con Xp.P FMp := ⟨97, sg_leaf, pr_leaf, ps_leaf, vc_ok (La := la_leaf) (Ca := ca_leaf) 300 (fn := Go.Proofs.Try.f97) (by kernel_rfl) (c := cd_leaf) (by kernel_rfl) (by kernel_rfl) (by kernel_rfl) (by kernel_rfl) (fun ⟨⟨A, ⟨b, c⟩⟩, ⟨⟩⟩ => vc_leaf A b c)⟩
noncomputable def cd_sfrom : Code := (Go.Proofs.Try.f112.body).getD .skip
def sg_sfrom : List Arg := [.ag [.arr .u64 4]]
def pr_sfrom : SgT FMp sg_sfrom → List Prop
  | ((w, ()), ()) => (fun (w : List Int) => ([] : List Prop)) w
def ps_sfrom : SgT FMp sg_sfrom → PS FMp
  | ((w, ()), ()) => (fun (w : List Int) => (⟨Unit, fun y => [], fun y => .v (.ag (zz .u8 (frF 32 32 w) 32)), fun y => [], fun y => [(frF 32 32 w).length = 32]⟩ : PS FMp)) w
def la_sfrom : SgT FMp sg_sfrom → List (Nat × (SS FMp → HA FMp))
  | ((w, ()), ()) => (fun (w : List Int) => ([(3, fun S => ⟨Int × (List Int), fun y => [], fun n y => [(5, some (one (.int .i64 (y.1))))], fun n y => setId S.m 2 (zz .u8 y.2 32), fun y => [0 ≤ y.1, y.1 ≤ 32, y.2 = itN (frS w) y.1.toNat (List.replicate 32 0)], fun y => (32 - y.1).toNat⟩)] : List (Nat × (SS FMp → HA FMp)))) w
def ca_sfrom : SgT FMp sg_sfrom → List (Nat × (SS FMp → HA FMp))
  | ((w, ()), ()) => (fun (w : List Int) => ([] : List (Nat × (SS FMp → HA FMp)))) w
theorem vc_sfrom (w : List Int) : Vc (vc (FM := FMp) Xp 22 [] (la_sfrom ((w, ()), ())) (ca_sfrom ((w, ()), ())) [] [] [.cell 2 40] sg_sfrom pr_sfrom ps_sfrom cd_sfrom 300 ((w, ()), ())) := by
  refine ⟨Eq.mpr (β := w.length = (4 : Nat) → ∀ (b b b : Nat), (∃ (y : Int × List Int), (0 : Int) = y.1 ∧ List.replicate (32 : Nat) (0 : Int) = y.2 ∧ (32 : Nat) = (32 : Nat) ∧ List.replicate (32 : Nat) (0 : Int) = List.replicate (32 : Nat) (0 : Int) ∧ (32 : Nat) = (32 : Nat) ∧ w = w ∧ (4 : Nat) = (4 : Nat) ∧ (0 : Int) ≤ y.1 ∧ y.1 ≤ (32 : Int) ∧ y.2 = itN (frS w) y.1.toNat (List.replicate (32 : Nat) (0 : Int))) ∧ ∀ (y : Int × List Int), y.2.length = (32 : Nat) → (32 : Nat) = (32 : Nat) → w.length = (4 : Nat) → (0 : Int) ≤ y.1 → y.1 ≤ (32 : Int) → y.2 = itN (frS w) y.1.toNat (List.replicate (32 : Nat) (0 : Int)) → (decide (y.1 < (32 : Int)) = true → (0 : Int) ≤ y.1 ∧ y.1 ≤ (9223372036854775807 : Int) ∧ (0 : Int) < (8 : Int) ∧ (0 : Int) ≤ y.1 / (8 : Int) ∧ y.1 / (8 : Int) < (4 : Int) ∧ (y.1 / (8 : Int)).toNat < (4 : Nat) ∧ (0 : Int) ≤ y.1 ∧ (0 : Int) < (8 : Int) ∧ (-9223372036854775808 : Int) ≤ (8 : Int) * (y.1 % (8 : Int)) ∧ (8 : Int) * (y.1 % (8 : Int)) ≤ (9223372036854775807 : Int) ∧ (-9223372036854775808 : Int) ≤ (56 : Int) - (8 : Int) * (y.1 % (8 : Int)) ∧ (56 : Int) - (8 : Int) * (y.1 % (8 : Int)) ≤ (9223372036854775807 : Int) ∧ (0 : Int) ≤ (56 : Int) - (8 : Int) * (y.1 % (8 : Int)) ∧ (0 : Int) ≤ y.1 ∧ y.1 < (32 : Int) ∧ y.1.toNat < (32 : Nat) ∧ ∀ (q : List Int), q = y.2.set y.1.toNat (IntKind.u8.wrap (shrV IntKind.u64 (w.getD (y.1 / (8 : Int)).toNat (0 : Int)) ((56 : Int) - (8 : Int) * (y.1 % (8 : Int))))) → (-9223372036854775808 : Int) ≤ y.1 + (1 : Int) ∧ y.1 + (1 : Int) ≤ (9223372036854775807 : Int) ∧ ∃ (y_1 : Int × List Int), y.1 + (1 : Int) = y_1.1 ∧ q = y_1.2 ∧ (32 : Nat) = (32 : Nat) ∧ List.replicate (32 : Nat) (0 : Int) = List.replicate (32 : Nat) (0 : Int) ∧ (32 : Nat) = (32 : Nat) ∧ w = w ∧ (4 : Nat) = (4 : Nat) ∧ (0 : Int) ≤ y_1.1 ∧ y_1.1 ≤ (32 : Int) ∧ y_1.2 = itN (frS w) y_1.1.toNat (List.replicate (32 : Nat) (0 : Int)) ∧ ((32 : Int) - y_1.1).toNat < ((32 : Int) - y.1).toNat) ∧ (decide (y.1 < (32 : Int)) = false → ∃ (y_1 : Unit), y.2 = frF (32 : Nat) (32 : Nat) w ∧ (32 : Nat) = (32 : Nat) ∧ (frF (32 : Nat) (32 : Nat) w).length = (32 : Nat))) (by kernel_rfl) ?_⟩
  simp only [imin, imax, decide_eq_true_eq, decide_eq_false_iff_not, Prod.forall, Prod.exists, exists_eq_left', exists_eq_left, exists_and_left, exists_and_right, exists_eq_right, exists_eq, exists_eq', true_and, and_true, forall_const, exists_const, eq_self, Bool.not_eq_true, Bool.not_eq_eq_eq_not, Bool.not_true, Bool.not_false, Value.slice.injEq, Option.getD_some, imp_self, implies_true, Option.some.injEq, Addr.mk.injEq, true_or, or_true, List.length_cons, List.length_nil, Nat.zero_add, Nat.reduceAdd]
  intro hw
  refine ⟨⟨by omega, by omega, rfl⟩, fun k q hq _ h0 h1 he => ⟨fun h2 => ⟨h0, by omega, by omega, by omega, by omega, by omega, h0, by omega, by omega, by omega, by omega, by omega, by omega, h0, h2, by omega, fun q' hq' => ⟨by omega, by omega, by omega, by omega, ?_, by omega⟩⟩, fun h2 => ⟨by rw [he, show k.toNat = 32 by omega]; rfl, frF_length _ _ _⟩⟩⟩
  rw [hq', show (k + 1).toNat = k.toNat + 1 by omega, itN, ← he, frS, show (k / 8).toNat = k.toNat / 8 by omega, Int.toNat_of_nonneg h0]
noncomputable def con_sfrom : Con Xp.P FMp := ⟨112, sg_sfrom, pr_sfrom, ps_sfrom, vc_ok (La := la_sfrom) (Ca := ca_sfrom) 300 (fn := Go.Proofs.Try.f112) (by kernel_rfl) (c := cd_sfrom) (by kernel_rfl) (by kernel_rfl) (by kernel_rfl) (by kernel_rfl) (fun ⟨⟨w, ⟨⟩⟩, ⟨⟩⟩ => vc_sfrom w)⟩
noncomputable def cd_soutb : Code := (Go.Proofs.Try.f44.body).getD .skip
def sg_soutb : List Arg := [.ag [.int .u64, .int .u64]]
def pr_soutb : SgT FMp sg_soutb → List Prop
  | ((to, (am, ())), ()) => (fun (to am : Int) => ([] : List Prop)) to am
def ps_soutb : SgT FMp sg_soutb → PS FMp
  | ((to, (am, ())), ()) => (fun (to am : Int) => (⟨(Option Addr) × Nat, fun y => [.ad y.1], fun y => .v (.one (.sc 0 0 ((e16 to am).length) y.2 false)), fun y => [.sl 0 ((e16 to am).length) y.2 (zz .u8 ((e16 to am)) ((e16 to am).length)) 5 1], fun y => [((e16 to am)).length ≤ y.2]⟩ : PS FMp)) to am
def la_soutb : SgT FMp sg_soutb → List (Nat × (SS FMp → HA FMp))
  | ((to, (am, ())), ()) => (fun (to am : Int) => ([(7700002, fun S => ⟨Int × (List Int) × (Option Addr) × Nat, fun y => [.ad y.2.2.1], fun n y => [(0, some (.v (.one (.sc n 0 y.2.1.length y.2.2.2 false)))), (10, some (one (.int .i64 (y.1))))], fun n y => .sl n y.2.1.length y.2.2.2 (zz .u8 y.2.1 y.2.1.length) 5 1 :: S.m, fun y => [0 ≤ y.1, y.1 ≤ 2, y.2.1 = wrR [to, am] y.1.toNat, y.2.1.length ≤ y.2.2.2], fun y => (2 - y.1).toNat⟩), (7700005, fun S => ⟨Int × Nat × (List Int) × (Option Addr) × Nat, fun y => [.ad y.2.2.2.1], fun n y => [(0, some (.v (.one (.sc n 0 y.2.2.1.length y.2.2.2.2 false)))), (7, some (one (.int .i64 (y.1))))], fun n y => .sl n y.2.2.1.length y.2.2.2.2 (zz .u8 y.2.2.1 y.2.2.1.length) 5 1 :: S.m.tail, fun y => [y.1 = 56 - 8 * (y.2.1 : Int), y.2.1 ≤ 8, y.2.2.1.length ≤ y.2.2.2.2, y.2.2.1 = la_h S ++ itN (e8S (la_i S 6)) y.2.1 []], fun y => 8 - y.2.1⟩)] : List (Nat × (SS FMp → HA FMp)))) to am
def ca_soutb : SgT FMp sg_soutb → List (Nat × (SS FMp → HA FMp))
  | ((to, (am, ())), ()) => (fun (to am : Int) => ([] : List (Nat × (SS FMp → HA FMp)))) to am
theorem vc_soutb (to am : Int) : Vc (vc (FM := FMp) Xp 9 [] (la_soutb ((to, (am, ())), ())) (ca_soutb ((to, (am, ())), ())) [] [76] [.tmp 2] sg_soutb pr_soutb ps_soutb cd_soutb 300 ((to, (am, ())), ())) := by
  refine ⟨Eq.mpr (β := ∀ (b b : Nat), (∃ (y : Int × List Int × Option Addr × Nat), Value.slice none (0 : Nat) (0 : Nat) = Value.slice y.snd.2.1 y.2.1.length y.snd.2.2 ∧ (0 : Int) = y.1 ∧ y.snd.2.1 = none ∧ y.2.1.length = (0 : Nat) ∧ y.snd.2.2 = (0 : Nat) ∧ y.2.1 = [] ∧ y.2.1.length = (0 : Nat) ∧ (2 : Nat) = (2 : Nat) ∧ (2 : Nat) = (2 : Nat) ∧ [to, am] = [to, am] ∧ [to, am].length = [to, am].length ∧ to = to ∧ am = am ∧ (0 : Int) ≤ y.1 ∧ y.1 ≤ (2 : Int) ∧ y.2.1 = wrR [to, am] y.1.toNat ∧ y.2.1.length ≤ y.snd.2.2) ∧ ∀ (y : Int × List Int × Option Addr × Nat), y.2.1.length = y.2.1.length → [to, am].length = [to, am].length → (0 : Int) ≤ y.1 → y.1 ≤ (2 : Int) → y.2.1 = wrR [to, am] y.1.toNat → y.2.1.length ≤ y.snd.2.2 → (decide (y.1 < (2 : Int)) = true → (0 : Int) ≤ y.1 ∧ y.1 < (2 : Int) ∧ y.1.toNat < [to, am].length ∧ (∃ (y_1 : Int × Nat × List Int × Option Addr × Nat), y.snd.2.1 = y_1.snd.snd.2.1 ∧ y.2.1.length = y_1.snd.2.1.length ∧ y.snd.2.2 = y_1.snd.snd.2.2 ∧ (56 : Int) = y_1.1 ∧ y.snd.2.1 = y_1.snd.snd.2.1 ∧ y.2.1.length = y_1.snd.2.1.length ∧ y.snd.2.2 = y_1.snd.snd.2.2 ∧ y.2.1 = y_1.snd.2.1 ∧ y.2.1.length = y_1.snd.2.1.length ∧ (2 : Nat) = (2 : Nat) ∧ (2 : Nat) = (2 : Nat) ∧ [to, am] = [to, am] ∧ [to, am].length = [to, am].length ∧ to = to ∧ am = am ∧ y_1.1 = (56 : Int) - (8 : Int) * (↑y_1.2.1 : Int) ∧ y_1.2.1 ≤ (8 : Nat) ∧ y_1.snd.2.1.length ≤ y_1.snd.snd.2.2 ∧ y_1.snd.2.1 = y.2.1 ++ itN (e8S ([to, am].getD y.1.toNat (0 : Int))) y_1.2.1 []) ∧ ∀ (y_1 : Int × Nat × List Int × Option Addr × Nat), y_1.snd.2.1.length = y_1.snd.2.1.length → [to, am].length = [to, am].length → y_1.1 = (56 : Int) - (8 : Int) * (↑y_1.2.1 : Int) → y_1.2.1 ≤ (8 : Nat) → y_1.snd.2.1.length ≤ y_1.snd.snd.2.2 → y_1.snd.2.1 = y.2.1 ++ itN (e8S ([to, am].getD y.1.toNat (0 : Int))) y_1.2.1 [] → (decide ((0 : Int) ≤ y_1.1) = true → (0 : Int) ≤ y_1.1 ∧ ∀ (b : Nat), y_1.snd.2.1.length = y_1.snd.2.1.length ∧ y_1.snd.snd.2.2 = y_1.snd.snd.2.2 ∧ (1 : Nat) = [IntKind.u8.wrap (shrV IntKind.u64 ([to, am].getD y.1.toNat (0 : Int)) y_1.1)].length ∧ (y_1.snd.2.1.length + (1 : Nat)) * Proofs.Try.prog.types[(5 : Nat)].bytes ≤ (140737488355328 : Nat) ∧ ∀ (A : Option Addr) (q : Nat), y_1.snd.2.1.length + (1 : Nat) ≤ q → (-9223372036854775808 : Int) ≤ y_1.1 - (8 : Int) ∧ y_1.1 - (8 : Int) ≤ (9223372036854775807 : Int) ∧ ∃ (y_2 : Int × Nat × List Int × Option Addr × Nat), A = y_2.snd.snd.2.1 ∧ y_1.snd.2.1.length + (1 : Nat) = y_2.snd.2.1.length ∧ q = y_2.snd.snd.2.2 ∧ y_1.1 - (8 : Int) = y_2.1 ∧ A = y_2.snd.snd.2.1 ∧ y_1.snd.2.1.length + (1 : Nat) = y_2.snd.2.1.length ∧ q = y_2.snd.snd.2.2 ∧ y_1.snd.2.1 ++ [IntKind.u8.wrap (shrV IntKind.u64 ([to, am].getD y.1.toNat (0 : Int)) y_1.1)] = y_2.snd.2.1 ∧ y_1.snd.2.1.length + [IntKind.u8.wrap (shrV IntKind.u64 ([to, am].getD y.1.toNat (0 : Int)) y_1.1)].length = y_2.snd.2.1.length ∧ (2 : Nat) = (2 : Nat) ∧ (2 : Nat) = (2 : Nat) ∧ [to, am] = [to, am] ∧ [to, am].length = [to, am].length ∧ to = to ∧ am = am ∧ y_2.1 = (56 : Int) - (8 : Int) * (↑y_2.2.1 : Int) ∧ y_2.2.1 ≤ (8 : Nat) ∧ y_2.snd.2.1.length ≤ y_2.snd.snd.2.2 ∧ y_2.snd.2.1 = y.2.1 ++ itN (e8S ([to, am].getD y.1.toNat (0 : Int))) y_2.2.1 [] ∧ (8 : Nat) - y_2.2.1 < (8 : Nat) - y_1.2.1) ∧ (decide ((0 : Int) ≤ y_1.1) = false → (-9223372036854775808 : Int) ≤ y.1 + (1 : Int) ∧ y.1 + (1 : Int) ≤ (9223372036854775807 : Int) ∧ ∃ (y_2 : Int × List Int × Option Addr × Nat), y_1.snd.snd.2.1 = y_2.snd.2.1 ∧ y_1.snd.2.1.length = y_2.2.1.length ∧ y_1.snd.snd.2.2 = y_2.snd.2.2 ∧ y.1 + (1 : Int) = y_2.1 ∧ y_1.snd.snd.2.1 = y_2.snd.2.1 ∧ y_1.snd.2.1.length = y_2.2.1.length ∧ y_1.snd.snd.2.2 = y_2.snd.2.2 ∧ y_1.snd.2.1 = y_2.2.1 ∧ y_1.snd.2.1.length = y_2.2.1.length ∧ (2 : Nat) = (2 : Nat) ∧ (2 : Nat) = (2 : Nat) ∧ [to, am] = [to, am] ∧ [to, am].length = [to, am].length ∧ to = to ∧ am = am ∧ (0 : Int) ≤ y_2.1 ∧ y_2.1 ≤ (2 : Int) ∧ y_2.2.1 = wrR [to, am] y_2.1.toNat ∧ y_2.2.1.length ≤ y_2.snd.2.2 ∧ ((2 : Int) - y_2.1).toNat < ((2 : Int) - y.1).toNat)) ∧ (decide (y.1 < (2 : Int)) = false → ∃ (y_1 : Option Addr × Nat), y.snd.2.1 = y_1.1 ∧ y.2.1.length = (e16 to am).length ∧ y.snd.2.2 = y_1.2 ∧ y.snd.2.1 = y_1.1 ∧ y.2.1.length = (e16 to am).length ∧ y.snd.2.2 = y_1.2 ∧ y.2.1 = e16 to am ∧ y.2.1.length = (e16 to am).length ∧ (e16 to am).length ≤ y_1.2)) (by kernel_rfl) ?_⟩
  simp only [imin, imax, decide_eq_true_eq, decide_eq_false_iff_not, Prod.forall, Prod.exists, exists_eq_left', exists_eq_left, exists_and_left, exists_and_right, exists_eq_right, exists_eq, exists_eq', true_and, and_true, forall_const, exists_const, eq_self, Bool.not_eq_true, Bool.not_eq_eq_eq_not, Bool.not_true, Bool.not_false, Value.slice.injEq, Option.getD_some, imp_self, implies_true, Option.some.injEq, Addr.mk.injEq, true_or, or_true, List.length_cons, List.length_nil, Nat.zero_add, Nat.reduceAdd]
  refine ⟨⟨0, [], none, 0, ⟨rfl, rfl, rfl⟩, rfl, rfl, rfl, rfl, rfl, rfl, by omega, by omega, rfl, Nat.le_refl _⟩, fun k v r k0 k1 hv hr => ⟨fun h => ⟨k0, h, by omega, ?_, fun i j u q hi hj hq hu => ⟨fun g => ?_, fun g => ?_⟩⟩, fun h => ?_⟩⟩
  · exact ⟨56, 0, v, rfl, rfl, rfl, rfl, rfl, rfl, by omega, hr, by simp [itN]⟩
  · have hul : u.length = 8 * k.toNat + j := by rw [hu, List.length_append, hv, wrR_length, itN_e8]
    refine ⟨g, by rw [BY1]; omega, fun q' hq' => ⟨by omega, by omega, i - 8, j + 1, u ++ [IntKind.u8.wrap (shrV .u64 ([to, am].getD k.toNat 0) i)], by simp, rfl, by simp, rfl, by simp, by omega, by omega, by simpa using hq', ?_, by omega⟩⟩
    rw [itN, e8S, ← List.append_assoc, ← hu, show 8 * (7 - (j : Int)) = i by omega]
  · have hj8 : j = 8 := by omega
    subst hj8
    refine ⟨by omega, by omega, k + 1, u, rfl, rfl, rfl, rfl, rfl, by omega, by omega, ?_, hq, by omega⟩
    rw [show (k + 1).toNat = k.toNat + 1 by omega, hu, hv]
    rfl
  · have hk : k.toNat = 2 := by omega
    rw [hk, wrR2] at hv
    subst hv
    exact ⟨rfl, rfl, rfl, rfl, hr⟩
noncomputable def con_soutb : Con Xp.P FMp := ⟨44, sg_soutb, pr_soutb, ps_soutb, vc_ok (La := la_soutb) (Ca := ca_soutb) 300 (fn := Go.Proofs.Try.f44) (by kernel_rfl) (c := cd_soutb) (by kernel_rfl) (by kernel_rfl) (by kernel_rfl) (by kernel_rfl) (fun ⟨⟨to, ⟨am, ⟨⟩⟩⟩, ⟨⟩⟩ => vc_soutb to am)⟩
noncomputable def cd_scounted : Code := (Go.Proofs.Try.f93.body).getD .skip
def sg_scounted : List Arg := [.one (.int .u64)]
def pr_scounted : SgT FMp sg_scounted → List Prop
  | (n, ()) => (fun (n : Int) => ([] : List Prop)) n
def ps_scounted : SgT FMp sg_scounted → PS FMp
  | (n, ()) => (fun (n : Int) => (⟨Unit, fun y => [], fun y => .v (.ag (zz .u8 (cntF n) 32)), fun y => [], fun y => [(cntF n).length = 32]⟩ : PS FMp)) n
def la_scounted : SgT FMp sg_scounted → List (Nat × (SS FMp → HA FMp))
  | (n, ()) => (fun (n : Int) => ([] : List (Nat × (SS FMp → HA FMp)))) n
def ca_scounted : SgT FMp sg_scounted → List (Nat × (SS FMp → HA FMp))
  | (n, ()) => (fun (n : Int) => ([] : List (Nat × (SS FMp → HA FMp)))) n
theorem vc_scounted (n : Int) : Vc (vc (FM := FMp) Xp 6 [con_sfrom] (la_scounted (n, ())) (ca_scounted (n, ())) [] [] [.cell 2 40] sg_scounted pr_scounted ps_scounted cd_scounted 300 (n, ())) := by
  refine ⟨Eq.mpr (β := ∀ (b : Nat) (y : Unit), (frF (32 : Nat) (32 : Nat) ((List.replicate (4 : Nat) (0 : Int)).set (3 : Nat) n)).length = (32 : Nat) → (frF (32 : Nat) (32 : Nat) ((List.replicate (4 : Nat) (0 : Int)).set (3 : Nat) n)).length = (32 : Nat) → ∃ (y : Unit), frF (32 : Nat) (32 : Nat) ((List.replicate (4 : Nat) (0 : Int)).set (3 : Nat) n) = cntF n ∧ (32 : Nat) = (32 : Nat) ∧ (cntF n).length = (32 : Nat)) (by kernel_rfl) ?_⟩
  simp only [imin, imax, decide_eq_true_eq, decide_eq_false_iff_not, Prod.forall, Prod.exists, exists_eq_left', exists_eq_left, exists_and_left, exists_and_right, exists_eq_right, exists_eq, exists_eq', true_and, and_true, forall_const, exists_const, eq_self, Bool.not_eq_true, Bool.not_eq_eq_eq_not, Bool.not_true, Bool.not_false, Value.slice.injEq, Option.getD_some, imp_self, implies_true, Option.some.injEq, Addr.mk.injEq, true_or, or_true, List.length_cons, List.length_nil, Nat.zero_add, Nat.reduceAdd]
  exact fun h _ => ⟨rfl, h⟩
noncomputable def con_scounted : Con Xp.P FMp := ⟨93, sg_scounted, pr_scounted, ps_scounted, vc_ok (La := la_scounted) (Ca := ca_scounted) 300 (fn := Go.Proofs.Try.f93) (by kernel_rfl) (c := cd_scounted) (by kernel_rfl) (by kernel_rfl) (by kernel_rfl) (by kernel_rfl) (fun ⟨n, ⟨⟩⟩ => vc_scounted n)⟩
noncomputable def cd_stop_ : Code := (Go.Proofs.Try.f69.body).getD .skip
def sg_stop_ : List Arg := [.ag [.arr .u8 32], .ag [.arr .u8 32], .one (.int .u64)]
def pr_stop_ : SgT FMp sg_stop_ → List Prop
  | ((u, ()), ((v, ()), (n, ()))) => (fun (u v : List Int) (n : Int) => ([] : List Prop)) u v n
def ps_stop_ : SgT FMp sg_stop_ → PS FMp
  | ((u, ()), ((v, ()), (n, ()))) => (fun (u v : List Int) (n : Int) => (⟨Unit, fun y => [], fun y => .v (.ag (zz .u8 (topF u v n) 32)), fun y => [], fun y => [(topF u v n).length = 32]⟩ : PS FMp)) u v n
def la_stop_ : SgT FMp sg_stop_ → List (Nat × (SS FMp → HA FMp))
  | ((u, ()), ((v, ()), (n, ()))) => (fun (u v : List Int) (n : Int) => ([] : List (Nat × (SS FMp → HA FMp)))) u v n
def ca_stop_ : SgT FMp sg_stop_ → List (Nat × (SS FMp → HA FMp))
  | ((u, ()), ((v, ()), (n, ()))) => (fun (u v : List Int) (n : Int) => ([] : List (Nat × (SS FMp → HA FMp)))) u v n
theorem vc_stop_ (u v : List Int) (n : Int) : Vc (vc (FM := FMp) Xp 13 [con_scounted, con_pair] (la_stop_ ((u, ()), ((v, ()), (n, ())))) (ca_stop_ ((u, ()), ((v, ()), (n, ())))) [] [] [.cell 6 40] sg_stop_ pr_stop_ ps_stop_ cd_stop_ 300 ((u, ()), ((v, ()), (n, ())))) := by
  refine ⟨Eq.mpr (β := u.length = (32 : Nat) → v.length = (32 : Nat) → ∀ (b b b : Nat) (y : Unit), (shaF ([(1 : Int)] ++ u ++ v)).length = (32 : Nat) → (shaF ([(1 : Int)] ++ u ++ v)).length = (32 : Nat) → ∀ (y : Unit), (cntF n).length = (32 : Nat) → (cntF n).length = (32 : Nat) → ∀ (y : Unit), (shaF ([(1 : Int)] ++ shaF ([(1 : Int)] ++ u ++ v) ++ cntF n)).length = (32 : Nat) → (shaF ([(1 : Int)] ++ shaF ([(1 : Int)] ++ u ++ v) ++ cntF n)).length = (32 : Nat) → ∃ (y : Unit), shaF ([(1 : Int)] ++ shaF ([(1 : Int)] ++ u ++ v) ++ cntF n) = topF u v n ∧ (32 : Nat) = (32 : Nat) ∧ (topF u v n).length = (32 : Nat)) (by kernel_rfl) ?_⟩
  simp only [imin, imax, decide_eq_true_eq, decide_eq_false_iff_not, Prod.forall, Prod.exists, exists_eq_left', exists_eq_left, exists_and_left, exists_and_right, exists_eq_right, exists_eq, exists_eq', true_and, and_true, forall_const, exists_const, eq_self, Bool.not_eq_true, Bool.not_eq_eq_eq_not, Bool.not_true, Bool.not_false, Value.slice.injEq, Option.getD_some, imp_self, implies_true, Option.some.injEq, Addr.mk.injEq, true_or, or_true, List.length_cons, List.length_nil, Nat.zero_add, Nat.reduceAdd]
  exact fun _ _ _ _ _ _ h _ => ⟨rfl, h⟩
noncomputable def con_stop_ : Con Xp.P FMp := ⟨69, sg_stop_, pr_stop_, ps_stop_, vc_ok (La := la_stop_) (Ca := ca_stop_) 300 (fn := Go.Proofs.Try.f69) (by kernel_rfl) (c := cd_stop_) (by kernel_rfl) (by kernel_rfl) (by kernel_rfl) (by kernel_rfl) (fun ⟨⟨u, ⟨⟩⟩, ⟨⟨v, ⟨⟩⟩, ⟨n, ⟨⟩⟩⟩⟩ => vc_stop_ u v n)⟩
noncomputable def cd_sfold : Code := (Go.Proofs.Try.f70.body).getD .skip
def sg_sfold : List Arg := [.one (.int .i64), .one (.sli .u8), .ag [.slr 0, .arr .u8 32, .int .u64]]
def pr_sfold : SgT FMp sg_sfold → List Prop
  | (i, ((A, (b, c)), (((P, (ps, pc)), (oth, (cnt, ()))), ()))) => (fun (i : Int) (A : Option Addr) (b : List Int) (c : Nat) (P : Option Addr) (ps : List (List Int)) (pc : Nat) (oth : List Int) (cnt : Int) => ([b.length ≤ 1000000] : List Prop)) i A b c P ps pc oth cnt
def ps_sfold : SgT FMp sg_sfold → PS FMp
  | (i, ((A, (b, c)), (((P, (ps, pc)), (oth, (cnt, ()))), ()))) => (fun (i : Int) (A : Option Addr) (b : List Int) (c : Nat) (P : Option Addr) (ps : List (List Int)) (pc : Nat) (oth : List Int) (cnt : Int) => (⟨Unit, fun y => [], fun y => .tup [.ag (zz .u8 (sfoH i b ps cnt) 32), .one (.xv (.bool (sfoB i ps cnt)))], fun y => [], fun y => [(sfoH i b ps cnt).length = 32]⟩ : PS FMp)) i A b c P ps pc oth cnt
def la_sfold : SgT FMp sg_sfold → List (Nat × (SS FMp → HA FMp))
  | (i, ((A, (b, c)), (((P, (ps, pc)), (oth, (cnt, ()))), ()))) => (fun (i : Int) (A : Option Addr) (b : List Int) (c : Nat) (P : Option Addr) (ps : List (List Int)) (pc : Nat) (oth : List Int) (cnt : Int) => ([] : List (Nat × (SS FMp → HA FMp)))) i A b c P ps pc oth cnt
def ca_sfold : SgT FMp sg_sfold → List (Nat × (SS FMp → HA FMp))
  | (i, ((A, (b, c)), (((P, (ps, pc)), (oth, (cnt, ()))), ()))) => (fun (i : Int) (A : Option Addr) (b : List Int) (c : Nat) (P : Option Addr) (ps : List (List Int)) (pc : Nat) (oth : List Int) (cnt : Int) => ([] : List (Nat × (SS FMp → HA FMp)))) i A b c P ps pc oth cnt
theorem vc_sfold (i : Int) (A : Option Addr) (b : List Int) (c : Nat) (P : Option Addr) (ps : List (List Int)) (pc : Nat) (oth : List Int) (cnt : Int) : Vc (vc (FM := FMp) Xp 32 [con_leaf, con_fold] (la_sfold (i, ((A, (b, c)), (((P, (ps, pc)), (oth, (cnt, ()))), ())))) (ca_sfold (i, ((A, (b, c)), (((P, (ps, pc)), (oth, (cnt, ()))), ())))) [] [] [.cell 6 40, .tmp 7] sg_sfold pr_sfold ps_sfold cd_sfold 300 (i, ((A, (b, c)), (((P, (ps, pc)), (oth, (cnt, ()))), ())))) := by
  refine ⟨Eq.mpr (β := (A.isNone = true → b = []) → (∀ (a : List Int), a ∈ ps → a.length = (32 : Nat)) → oth.length = (32 : Nat) → b.length ≤ (1000000 : Nat) → ∀ (b_1 b_2 : Nat), ((!decide ((↑ps.length : Int) = (5 : Int)) || decide ((32 : Int) < cnt)) = true → ∃ (y : Unit), List.replicate (32 : Nat) (0 : Int) = sfoH i b ps cnt ∧ (32 : Nat) = (32 : Nat) ∧ false = sfoB i ps cnt ∧ (sfoH i b ps cnt).length = (32 : Nat)) ∧ ((!decide ((↑ps.length : Int) = (5 : Int)) || decide ((32 : Int) < cnt)) = false → (b.length = b.length ∧ b.length ≤ (1000000 : Nat) ∧ ∀ (y : Unit), (leafF b).length = (32 : Nat) → (leafF b).length = (32 : Nat) → (ps.length = ps.length ∧ ∀ (y : Unit), (fldH i (leafF b) ps).length = (32 : Nat) → (fldH i (leafF b) ps).length = (32 : Nat) → ∀ (b_3 : Nat), ∃ (y : Unit), fldH i (leafF b) ps = sfoH i b ps cnt ∧ (32 : Nat) = (32 : Nat) ∧ decide (fldE i ps.length = (0 : Int)) = sfoB i ps cnt ∧ (sfoH i b ps cnt).length = (32 : Nat)) ∧ ∀ (b_3 : Nat), ps.length = ps.length ∧ ∀ (y : Unit), (fldH i (leafF b) ps).length = (32 : Nat) → (fldH i (leafF b) ps).length = (32 : Nat) → ∃ (y : Unit), fldH i (leafF b) ps = sfoH i b ps cnt ∧ (32 : Nat) = (32 : Nat) ∧ decide (fldE i ps.length = (0 : Int)) = sfoB i ps cnt ∧ (sfoH i b ps cnt).length = (32 : Nat)) ∧ ∀ (b_3 : Nat), b.length = b.length ∧ b.length ≤ (1000000 : Nat) ∧ ∀ (y : Unit), (leafF b).length = (32 : Nat) → (leafF b).length = (32 : Nat) → ps.length = ps.length ∧ ∀ (y : Unit), (fldH i (leafF b) ps).length = (32 : Nat) → (fldH i (leafF b) ps).length = (32 : Nat) → ∃ (y : Unit), fldH i (leafF b) ps = sfoH i b ps cnt ∧ (32 : Nat) = (32 : Nat) ∧ decide (fldE i ps.length = (0 : Int)) = sfoB i ps cnt ∧ (sfoH i b ps cnt).length = (32 : Nat))) (by kernel_rfl) ?_⟩
  simp only [imin, imax, decide_eq_true_eq, decide_eq_false_iff_not, Prod.forall, Prod.exists, exists_eq_left', exists_eq_left, exists_and_left, exists_and_right, exists_eq_right, exists_eq, exists_eq', true_and, and_true, forall_const, exists_const, eq_self, Bool.not_eq_true, Bool.not_eq_eq_eq_not, Bool.not_true, Bool.not_false, Value.slice.injEq, Option.getD_some, imp_self, implies_true, Option.some.injEq, Addr.mk.injEq, true_or, or_true, List.length_cons, List.length_nil, Nat.zero_add, Nat.reduceAdd]
  intro _ hps _ hb
  refine ⟨fun h => ?_, fun h => ?_⟩
  · simp only [Bool.or_eq_true, Bool.not_eq_true', decide_eq_false_iff_not, decide_eq_true_eq] at h
    have hn : ¬ (ps.length = 5 ∧ cnt ≤ 32) := by omega
    refine ⟨by rw [sfoH, if_neg hn], ?_, by rw [sfoH, if_neg hn]; simp⟩
    unfold sfoB
    symm
    simp only [Bool.and_eq_false_iff, decide_eq_false_iff_not]
    omega
  · simp only [Bool.or_eq_false_iff, Bool.not_eq_false', decide_eq_true_eq, decide_eq_false_iff_not] at h
    have hy : ps.length = 5 ∧ cnt ≤ 32 := by omega
    have K : (fldH i (leafF b) ps).length = 32 → fldH i (leafF b) ps = sfoH i b ps cnt ∧ decide (fldE i ps.length = 0) = sfoB i ps cnt ∧ (sfoH i b ps cnt).length = 32 := fun hl => by
      have e : sfoH i b ps cnt = fldH i (leafF b) ps := by rw [sfoH, if_pos hy]
      refine ⟨e.symm, ?_, by rw [e]; exact hl⟩
      unfold sfoB
      rw [hy.1, decide_eq_true hy.2]
      simp
    exact ⟨⟨hb, fun _ _ => ⟨fun _ h => K h, fun _ h => K h⟩⟩, hb, fun _ _ _ h => K h⟩
noncomputable def con_sfold : Con Xp.P FMp := ⟨70, sg_sfold, pr_sfold, ps_sfold, vc_ok (La := la_sfold) (Ca := ca_sfold) 300 (fn := Go.Proofs.Try.f70) (by kernel_rfl) (c := cd_sfold) (by kernel_rfl) (by kernel_rfl) (by kernel_rfl) (by kernel_rfl) (fun ⟨i, ⟨⟨A, ⟨b, c⟩⟩, ⟨⟨⟨P, ⟨ps, pc⟩⟩, ⟨oth, ⟨cnt, ⟨⟩⟩⟩⟩, ⟨⟩⟩⟩⟩ => vc_sfold i A b c P ps pc oth cnt)⟩
noncomputable def cd_scheck : Code := (Go.Proofs.Try.f41.body).getD .skip
def sg_scheck : List Arg := [.ag [.arr .u8 32], .one (.int .i64), .ag [.int .u64, .int .u64], .ag [.slr 0, .arr .u8 32, .int .u64]]
def pr_scheck : SgT FMp sg_scheck → List Prop
  | ((root, ()), (i, ((to, (am, ())), (((P, (ps, pc)), (oth, (cnt, ()))), ())))) => (fun (root : List Int) (i to am : Int) (P : Option Addr) (ps : List (List Int)) (pc : Nat) (oth : List Int) (cnt : Int) => ([] : List Prop)) root i to am P ps pc oth cnt
def ps_scheck : SgT FMp sg_scheck → PS FMp
  | ((root, ()), (i, ((to, (am, ())), (((P, (ps, pc)), (oth, (cnt, ()))), ())))) => (fun (root : List Int) (i to am : Int) (P : Option Addr) (ps : List (List Int)) (pc : Nat) (oth : List Int) (cnt : Int) => (⟨Unit, fun y => [], fun y => one (.bool (ckO root i to am ps oth cnt)), fun y => [], fun y => []⟩ : PS FMp)) root i to am P ps pc oth cnt
def la_scheck : SgT FMp sg_scheck → List (Nat × (SS FMp → HA FMp))
  | ((root, ()), (i, ((to, (am, ())), (((P, (ps, pc)), (oth, (cnt, ()))), ())))) => (fun (root : List Int) (i to am : Int) (P : Option Addr) (ps : List (List Int)) (pc : Nat) (oth : List Int) (cnt : Int) => ([] : List (Nat × (SS FMp → HA FMp)))) root i to am P ps pc oth cnt
def ca_scheck : SgT FMp sg_scheck → List (Nat × (SS FMp → HA FMp))
  | ((root, ()), (i, ((to, (am, ())), (((P, (ps, pc)), (oth, (cnt, ()))), ())))) => (fun (root : List Int) (i to am : Int) (P : Option Addr) (ps : List (List Int)) (pc : Nat) (oth : List Int) (cnt : Int) => ([] : List (Nat × (SS FMp → HA FMp)))) root i to am P ps pc oth cnt
theorem vc_scheck (root : List Int) (i to am : Int) (P : Option Addr) (ps : List (List Int)) (pc : Nat) (oth : List Int) (cnt : Int) : Vc (vc (FM := FMp) Xp 37 [con_soutb, con_sfold, con_stop_] (la_scheck ((root, ()), (i, ((to, (am, ())), (((P, (ps, pc)), (oth, (cnt, ()))), ()))))) (ca_scheck ((root, ()), (i, ((to, (am, ())), (((P, (ps, pc)), (oth, (cnt, ()))), ()))))) [] [] [.tmp 8] sg_scheck pr_scheck ps_scheck cd_scheck 300 ((root, ()), (i, ((to, (am, ())), (((P, (ps, pc)), (oth, (cnt, ()))), ()))))) := by
  refine ⟨Eq.mpr (β := root.length = (32 : Nat) → (∀ (a : List Int), a ∈ ps → a.length = (32 : Nat)) → oth.length = (32 : Nat) → ∀ (b b b : Nat), (∀ (y : Option Addr × Nat), (e16 to am).length = (e16 to am).length → (e16 to am).length ≤ y.2 → ((e16 to am).length = (e16 to am).length ∧ ps.length = ps.length ∧ (e16 to am).length ≤ (1000000 : Nat) ∧ ∀ (y : Unit), (sfoH i (e16 to am) ps cnt).length = (32 : Nat) → (sfoH i (e16 to am) ps cnt).length = (32 : Nat) → ∀ (b : Nat), ((sfoB i ps cnt && decide (IntKind.u64.wrap i < cnt)) = true → ∀ (y : Unit), (topF oth (sfoH i (e16 to am) ps cnt) cnt).length = (32 : Nat) → (topF oth (sfoH i (e16 to am) ps cnt) cnt).length = (32 : Nat) → ∃ (y : Unit), decide (topF oth (sfoH i (e16 to am) ps cnt) cnt = root) = ckO root i to am ps oth cnt) ∧ ((sfoB i ps cnt && decide (IntKind.u64.wrap i < cnt)) = false → ∃ (y : Unit), false = ckO root i to am ps oth cnt)) ∧ ∀ (b : Nat), (e16 to am).length = (e16 to am).length ∧ ps.length = ps.length ∧ (e16 to am).length ≤ (1000000 : Nat) ∧ ∀ (y : Unit), (sfoH i (e16 to am) ps cnt).length = (32 : Nat) → (sfoH i (e16 to am) ps cnt).length = (32 : Nat) → ((sfoB i ps cnt && decide (IntKind.u64.wrap i < cnt)) = true → ∀ (y : Unit), (topF oth (sfoH i (e16 to am) ps cnt) cnt).length = (32 : Nat) → (topF oth (sfoH i (e16 to am) ps cnt) cnt).length = (32 : Nat) → ∃ (y : Unit), decide (topF oth (sfoH i (e16 to am) ps cnt) cnt = root) = ckO root i to am ps oth cnt) ∧ ((sfoB i ps cnt && decide (IntKind.u64.wrap i < cnt)) = false → ∃ (y : Unit), false = ckO root i to am ps oth cnt)) ∧ ∀ (b : Nat) (y : Option Addr × Nat), (e16 to am).length = (e16 to am).length → (e16 to am).length ≤ y.2 → (e16 to am).length = (e16 to am).length ∧ ps.length = ps.length ∧ (e16 to am).length ≤ (1000000 : Nat) ∧ ∀ (y : Unit), (sfoH i (e16 to am) ps cnt).length = (32 : Nat) → (sfoH i (e16 to am) ps cnt).length = (32 : Nat) → ((sfoB i ps cnt && decide (IntKind.u64.wrap i < cnt)) = true → ∀ (y : Unit), (topF oth (sfoH i (e16 to am) ps cnt) cnt).length = (32 : Nat) → (topF oth (sfoH i (e16 to am) ps cnt) cnt).length = (32 : Nat) → ∃ (y : Unit), decide (topF oth (sfoH i (e16 to am) ps cnt) cnt = root) = ckO root i to am ps oth cnt) ∧ ((sfoB i ps cnt && decide (IntKind.u64.wrap i < cnt)) = false → ∃ (y : Unit), false = ckO root i to am ps oth cnt)) (by kernel_rfl) ?_⟩
  simp only [imin, imax, decide_eq_true_eq, decide_eq_false_iff_not, Prod.forall, Prod.exists, exists_eq_left', exists_eq_left, exists_and_left, exists_and_right, exists_eq_right, exists_eq, exists_eq', true_and, and_true, forall_const, exists_const, eq_self, Bool.not_eq_true, Bool.not_eq_eq_eq_not, Bool.not_true, Bool.not_false, Value.slice.injEq, Option.getD_some, imp_self, implies_true, Option.some.injEq, Addr.mk.injEq, true_or, or_true, List.length_cons, List.length_nil, Nat.zero_add, Nat.reduceAdd]
  intro _ _ _
  have C1 : (sfoB i ps cnt && decide (IntKind.u64.wrap i < cnt)) = true → decide (topF oth (sfoH i (e16 to am) ps cnt) cnt = root) = ckO root i to am ps oth cnt := fun h => by unfold ckO; rw [h, Bool.true_and]
  have C2 : (sfoB i ps cnt && decide (IntKind.u64.wrap i < cnt)) = false → false = ckO root i to am ps oth cnt := fun h => by unfold ckO; rw [h, Bool.false_and]
  have hl : (e16 to am).length ≤ 1000000 := by rw [e16_length]; omega
  exact ⟨fun _ _ => ⟨⟨hl, fun _ _ => ⟨fun h _ _ => C1 h, C2⟩⟩, hl, fun _ _ => ⟨fun h _ _ => C1 h, C2⟩⟩, fun _ _ => ⟨hl, fun _ _ => ⟨fun h _ _ => C1 h, C2⟩⟩⟩
noncomputable def con_scheck : Con Xp.P FMp := ⟨41, sg_scheck, pr_scheck, ps_scheck, vc_ok (La := la_scheck) (Ca := ca_scheck) 300 (fn := Go.Proofs.Try.f41) (by kernel_rfl) (c := cd_scheck) (by kernel_rfl) (by kernel_rfl) (by kernel_rfl) (by kernel_rfl) (fun ⟨⟨root, ⟨⟩⟩, ⟨i, ⟨⟨to, ⟨am, ⟨⟩⟩⟩, ⟨⟨⟨P, ⟨ps, pc⟩⟩, ⟨oth, ⟨cnt, ⟨⟩⟩⟩⟩, ⟨⟩⟩⟩⟩⟩ => vc_scheck root i to am P ps pc oth cnt)⟩

end Go.Pw
