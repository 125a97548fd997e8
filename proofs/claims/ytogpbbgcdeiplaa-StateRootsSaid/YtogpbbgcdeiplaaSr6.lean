/-
  Walks by computing, their engine and the plain laws under them, in parts. No condition.
-/
import Derived.Test.YtogpbbgcdeiplaaSr5
import Derived.SizedLaws
section
/-
  Walks by computing. No condition.
-/
set_option linter.all false
set_option maxRecDepth 100000
set_option maxHeartbeats 1000000
namespace Go.Pw
open Go Go.Px Go.RowKit
attribute [local irreducible] shaF


theorem byH_length (u : List (Option Addr × List Int × Nat)) : (byH u).length = u.length := by simp [byH]
theorem byH_append (u w : List (Option Addr × List Int × Nat)) : byH (u ++ w) = byH u ++ byH w := by simp [byH]
theorem byH_get {w : List (Option Addr × List Int × Nat)} {k : Nat} (h : k < w.length) : w.getD k (none, [], 0) ∈ w ∧ (byH w)[k]? = some (w.getD k (none, [], 0)).2.1 := by
  refine ⟨gd_mem h, ?_⟩
  rw [byH, List.getElem?_map, List.getElem?_eq_getElem h, getD_lt h]; rfl
theorem accB_small {acc : List (Int × Int × List Int)} {ou : List (Int × Int)} (h : ∀ (a a_1 : Int) (b : List Int), List.Mem (a, a_1, b) acc → b.length = 32) {x : List Int} (hx : x ∈ accB acc ++ outB ou) : x.length ≤ 48 := by
  rcases List.mem_append.1 hx with g | g
  · obtain ⟨y, hy, rfl⟩ := List.mem_map.1 g
    rw [a48_length (h _ _ _ hy)]; exact Nat.le_refl _
  · obtain ⟨y, -, rfl⟩ := List.mem_map.1 g
    rw [e16_length]; decide
noncomputable def cd_sknown : Code := (Go.Proofs.Try.f22.body).getD .skip
def sg_sknown : List Arg := [.ag [.rcs 1 32, .slr 2]]
def pr_sknown : SgT FMp sg_sknown → List Prop
  | ((acc, ((A, (ou, c)), ())), ()) => (fun (acc : List (Int × Int × List Int)) (A : Option Addr) (ou : List (Int × Int)) (c : Nat) => ([a64 acc] : List Prop)) acc A ou c
def ps_sknown : SgT FMp sg_sknown → PS FMp
  | ((acc, ((A, (ou, c)), ())), ()) => (fun (acc : List (Int × Int × List Int)) (A : Option Addr) (ou : List (Int × Int)) (c : Nat) => (⟨(Option Addr) × Nat × (List ((Option Addr × List Int × Nat) × List Int)) × Int, fun y => [.ad y.1], fun y => .tup [.one (.sc 0 0 y.2.2.1.length y.2.1 false), .one (.xv (.int .i64 y.2.2.2))], fun y => [.sl 0 y.2.2.1.length y.2.1 [.f 5 y.2.2.1 y.2.2.1.length] 87 33, .fz [] [[.f 5 y.2.2.1 y.2.2.1.length]]], fun y => [knRes acc ou (ctH y.2.2.1) y.2.2.2]⟩ : PS FMp)) acc A ou c
def la_sknown : SgT FMp sg_sknown → List (Nat × (SS FMp → HA FMp))
  | ((acc, ((A, (ou, c)), ())), ()) => (fun (acc : List (Int × Int × List Int)) (A : Option Addr) (ou : List (Int × Int)) (c : Nat) => ([(9100002, fun S => ⟨Int × (List (Option Addr × List Int × Nat)) × (Option Addr) × Nat, fun y => [.ad y.2.2.1], fun n y => [(21, some (one (.int .i64 (y.1)))), (3, some (.v (.one (.sc n 0 y.2.1.length y.2.2.2 false))))], fun n y => .sl n y.2.1.length y.2.2.2 [.f 4 y.2.1 y.2.1.length] 83 1 :: .fz [] [[.f 4 y.2.1 y.2.1.length]] :: S.m, fun y => [0 ≤ y.1, y.1 ≤ 32, byH y.2.1 = (accB acc).take y.1.toNat], fun y => (32 - y.1).toNat⟩), (9100007, fun S => ⟨Int × (List (Option Addr × List Int × Nat)) × (Option Addr) × Nat, fun y => [.ad y.2.2.1], fun n y => [(33, some (one (.int .i64 (y.1)))), (3, some (.v (.one (.sc n 0 y.2.1.length y.2.2.2 false))))], fun n y => .sl n y.2.1.length y.2.2.2 [.f 4 y.2.1 y.2.1.length] 83 1 :: .fz [] [[.f 4 y.2.1 y.2.1.length]] :: S.m.tail.tail, fun y => [0 ≤ y.1, y.1 ≤ ou.length, byH y.2.1 = accB acc ++ (outB ou).take y.1.toNat], fun y => (ou.length - y.1).toNat⟩), (9100012, fun S => ⟨Int × (List ((Option Addr × List Int × Nat) × List Int)) × (Option Addr) × Nat, fun y => [.ad y.2.2.1], fun n y => [(45, some (one (.int .i64 (y.1))))], fun n y => .sl n y.2.1.length y.2.2.2 [.f 5 y.2.1 y.2.1.length] 87 33 :: addFl (setId S.m (idT S.m 68) [.b (.cl (.sc n 0 y.2.1.length y.2.2.2 false))]) [[.f 5 y.2.1 y.2.1.length]], fun y => [0 ≤ y.1, y.1 ≤ (accB acc ++ outB ou).length, ctH y.2.1 = (lfL (accB acc ++ outB ou)).take y.1.toNat], fun y => ((accB acc ++ outB ou).length - y.1).toNat⟩), (9100022, fun S => ⟨Nat × Nat × (List (List Int)) × (List ((Option Addr × List Int × Nat) × List Int)) × (Option Addr) × Nat, fun y => [.ad y.2.2.2.2.1], fun n y => [(14, some (.v (.one (.sc (la_g S) 0 y.2.1 (la_q S 14) true))))], fun n y => set5 (setId S.m (la_id S 14) [.f 0 y.2.2.1 (la_c S (la_id S 14))]) n y.2.2.2.2.2 y.2.2.2.1, fun y => [y.1 ≤ 5, y.2.1 = 2 ^ (5 - y.1), y.2.2.1.take y.2.1 = lvl (la_F S (la_id S 14)) y.1, ctH y.2.2.2.1 = ctH (la_5 S.m) ++ prS (la_F S (la_id S 14)) y.1], fun y => y.2.1⟩), (9100025, fun S => ⟨Int × (List (List Int)) × (List ((Option Addr × List Int × Nat) × List Int)) × (Option Addr) × Nat, fun y => [.ad y.2.2.2.1], fun n y => [(81, some (one (.int .i64 (y.1))))], fun n y => set5 (setId S.m (la_id S 14) [.f 0 y.2.1 (la_c S (la_id S 14))]) n y.2.2.2.2 y.2.2.1, fun y => [0 ≤ y.1, y.1 ≤ ((la_n S 14 / 2 : Nat) : Int), y.2.1 = itN (stp [] (la_n S 14)) y.1.toNat (la_F S (la_id S 14)), ctH y.2.2.1 = ctH (la_5 S.m) ++ enL ((la_F S (la_id S 14)).take (la_n S 14)) y.1.toNat], fun y => (((la_n S 14 / 2 : Nat) : Int) - y.1).toNat⟩)] : List (Nat × (SS FMp → HA FMp)))) acc A ou c
def ca_sknown : SgT FMp sg_sknown → List (Nat × (SS FMp → HA FMp))
  | ((acc, ((A, (ou, c)), ())), ()) => (fun (acc : List (Int × Int × List Int)) (A : Option Addr) (ou : List (Int × Int)) (c : Nat) => ([(9100034, fun S => ⟨(List (List Int)) × (List ((Option Addr × List Int × Nat) × List Int)) × (Option Addr) × Nat, fun y => [.ad y.2.2.1], fun n y => [], fun n y => set5 (setId S.m.tail.tail (la_id S 10) [.f 0 y.1 2]) n y.2.2.2 y.2.1, fun y => [y.1.getD 0 (List.replicate 32 0) = rootH 5 (accL acc), y.1.getD 1 (List.replicate 32 0) = rootH 5 (outL ou), ctH y.2.1 = ctH (la_5 S.m) ++ (prS (pdL (accL acc)) 5 ++ prS (pdL (outL ou)) 5)], fun y => 0⟩)] : List (Nat × (SS FMp → HA FMp)))) acc A ou c
theorem vc_sknown (acc : List (Int × Int × List Int)) (A : Option Addr) (ou : List (Int × Int)) (c : Nat) : Vc (vc (FM := FMp) Xp 17 [con_smayb, con_saccb, con_soutb, con_sum, con_strees, con_scounted, con_spaired] (la_sknown ((acc, ((A, (ou, c)), ())), ())) (ca_sknown ((acc, ((A, (ou, c)), ())), ())) [(9150019, [(2, 0)])] [65, 90, 91] [.tmp 2, .tmp 3] sg_sknown pr_sknown ps_sknown cd_sknown 3000 ((acc, ((A, (ou, c)), ())), ())) := by
  refine ⟨Eq.mpr (β := acc.length = (32 : Nat) → (∀ (a : Int × Int × List Int), List.Mem a acc → a.2.2.length = (32 : Nat)) → (∀ (a : Int × Int), a ∈ ou → True) → a64 acc → ∀ (b : Nat), ou.length = ou.length ∧ a64 acc ∧ ∀ (y : Unit), ((!(decide (stE acc = (0 : Int)) && decide (ou.length ≤ (32 : Nat)))) = true → ∃ (y : Option Addr × Nat × List ((Option Addr × List Int × Nat) × List Int) × Int), Value.slice none (0 : Nat) (0 : Nat) = Value.slice y.1 y.snd.2.1.length y.2.1 ∧ (2 : Int) = y.snd.2.2 ∧ y.1 = none ∧ y.snd.2.1.length = (0 : Nat) ∧ y.2.1 = (0 : Nat) ∧ y.snd.2.1 = [] ∧ y.snd.2.1.length = (0 : Nat) ∧ y.snd.2.1 = [] ∧ knRes acc ou (ctH y.snd.2.1) y.snd.2.2) ∧ ((!(decide (stE acc = (0 : Int)) && decide (ou.length ≤ (32 : Nat)))) = false → ∀ (b b bD bl : Nat) (r : Loop), (∃ (y : Int × List (Option Addr × List Int × Nat) × Option Addr × Nat), (0 : Int) = y.1 ∧ Value.slice none (0 : Nat) (0 : Nat) = Value.slice y.snd.2.1 y.2.1.length y.snd.2.2 ∧ y.snd.2.1 = none ∧ y.2.1.length = (0 : Nat) ∧ y.snd.2.2 = (0 : Nat) ∧ y.2.1 = [] ∧ y.2.1.length = (0 : Nat) ∧ y.2.1 = [] ∧ r = r ∧ acc = acc ∧ (32 : Nat) = (32 : Nat) ∧ ou.length = ou.length ∧ c = c ∧ Value.slice none (0 : Nat) (0 : Nat) = Value.slice none (0 : Nat) (0 : Nat) ∧ acc = acc ∧ (32 : Nat) = (32 : Nat) ∧ ou.length = ou.length ∧ c = c ∧ (0 : Int) ≤ y.1 ∧ y.1 ≤ (32 : Int) ∧ byH y.2.1 = List.take y.1.toNat (accB acc)) ∧ ∀ (y : Int × List (Option Addr × List Int × Nat) × Option Addr × Nat), y.2.1.length = y.2.1.length → (∀ (a : Option Addr × List Int × Nat), a ∈ y.2.1 → True) → acc.length = (32 : Nat) → (∀ (a : Int × Int × List Int), a ∈ acc → a.2.2.length = (32 : Nat)) → acc.length = (32 : Nat) → (∀ (a : Int × Int × List Int), a ∈ acc → a.2.2.length = (32 : Nat)) → (0 : Int) ≤ y.1 → y.1 ≤ (32 : Int) → byH y.2.1 = List.take y.1.toNat (accB acc) → (decide (y.1 < (32 : Int)) = true → (0 : Int) ≤ y.1 ∧ y.1 < (32 : Int) ∧ y.1.toNat < (32 : Nat) ∧ ∀ (b : Nat) (y_1 : Option Addr × Nat), (a48 (acc.getD y.1.toNat ((0, 0, List.replicate 32 0) : Int × Int × List Int)).1 (acc.getD y.1.toNat ((0, 0, List.replicate 32 0) : Int × Int × List Int)).2.1 (acc.getD y.1.toNat ((0, 0, List.replicate 32 0) : Int × Int × List Int)).2.2).length = (a48 (acc.getD y.1.toNat ((0, 0, List.replicate 32 0) : Int × Int × List Int)).1 (acc.getD y.1.toNat ((0, 0, List.replicate 32 0) : Int × Int × List Int)).2.1 (acc.getD y.1.toNat ((0, 0, List.replicate 32 0) : Int × Int × List Int)).2.2).length → (a48 (acc.getD y.1.toNat ((0, 0, List.replicate 32 0) : Int × Int × List Int)).1 (acc.getD y.1.toNat ((0, 0, List.replicate 32 0) : Int × Int × List Int)).2.1 (acc.getD y.1.toNat ((0, 0, List.replicate 32 0) : Int × Int × List Int)).2.2).length ≤ y_1.2 → ∀ (b : Nat), (a48 (acc.getD y.1.toNat ((0, 0, List.replicate 32 0) : Int × Int × List Int)).1 (acc.getD y.1.toNat ((0, 0, List.replicate 32 0) : Int × Int × List Int)).2.1 (acc.getD y.1.toNat ((0, 0, List.replicate 32 0) : Int × Int × List Int)).2.2).length = (a48 (acc.getD y.1.toNat ((0, 0, List.replicate 32 0) : Int × Int × List Int)).1 (acc.getD y.1.toNat ((0, 0, List.replicate 32 0) : Int × Int × List Int)).2.1 (acc.getD y.1.toNat ((0, 0, List.replicate 32 0) : Int × Int × List Int)).2.2).length ∧ y.2.1.length = y.2.1.length ∧ y.snd.2.2 = y.snd.2.2 ∧ (1 : Nat) = [(y_1.1, a48 (acc.getD y.1.toNat ((0, 0, List.replicate 32 0) : Int × Int × List Int)).1 (acc.getD y.1.toNat ((0, 0, List.replicate 32 0) : Int × Int × List Int)).2.1 (acc.getD y.1.toNat ((0, 0, List.replicate 32 0) : Int × Int × List Int)).2.2, y_1.2)].length ∧ (y.2.1.length + (1 : Nat)) * Proofs.Try.prog.types[(83 : Nat)].bytes ≤ (140737488355328 : Nat) ∧ ∀ (A : Option Addr) (q : Nat), y.2.1.length + (1 : Nat) ≤ q → (-9223372036854775808 : Int) ≤ y.1 + (1 : Int) ∧ y.1 + (1 : Int) ≤ (9223372036854775807 : Int) ∧ ∃ (y_2 : Int × List (Option Addr × List Int × Nat) × Option Addr × Nat), y.1 + (1 : Int) = y_2.1 ∧ A = y_2.snd.2.1 ∧ y.2.1.length + (1 : Nat) = y_2.2.1.length ∧ q = y_2.snd.2.2 ∧ A = y_2.snd.2.1 ∧ y.2.1.length + (1 : Nat) = y_2.2.1.length ∧ q = y_2.snd.2.2 ∧ y.2.1 ++ [(y_1.1, a48 (acc.getD y.1.toNat ((0, 0, List.replicate 32 0) : Int × Int × List Int)).1 (acc.getD y.1.toNat ((0, 0, List.replicate 32 0) : Int × Int × List Int)).2.1 (acc.getD y.1.toNat ((0, 0, List.replicate 32 0) : Int × Int × List Int)).2.2, y_1.2)] = y_2.2.1 ∧ y.2.1.length + [(y_1.1, a48 (acc.getD y.1.toNat ((0, 0, List.replicate 32 0) : Int × Int × List Int)).1 (acc.getD y.1.toNat ((0, 0, List.replicate 32 0) : Int × Int × List Int)).2.1 (acc.getD y.1.toNat ((0, 0, List.replicate 32 0) : Int × Int × List Int)).2.2, y_1.2)].length = y_2.2.1.length ∧ (∀ (a : Option Addr × List Int × Nat), a ∈ y_2.2.1 → a ∈ [(y_1.1, a48 (acc.getD y.1.toNat ((0, 0, List.replicate 32 0) : Int × Int × List Int)).1 (acc.getD y.1.toNat ((0, 0, List.replicate 32 0) : Int × Int × List Int)).2.1 (acc.getD y.1.toNat ((0, 0, List.replicate 32 0) : Int × Int × List Int)).2.2, y_1.2)] ∨ a ∈ y.2.1) ∧ r = r ∧ acc = acc ∧ (32 : Nat) = (32 : Nat) ∧ ou.length = ou.length ∧ c = c ∧ Value.slice none (0 : Nat) (0 : Nat) = Value.slice none (0 : Nat) (0 : Nat) ∧ acc = acc ∧ (32 : Nat) = (32 : Nat) ∧ ou.length = ou.length ∧ c = c ∧ (0 : Int) ≤ y_2.1 ∧ y_2.1 ≤ (32 : Int) ∧ byH y_2.2.1 = List.take y_2.1.toNat (accB acc) ∧ ((32 : Int) - y_2.1).toNat < ((32 : Int) - y.1).toNat) ∧ (decide (y.1 < (32 : Int)) = false → (∃ (y_1 : Int × List (Option Addr × List Int × Nat) × Option Addr × Nat), (0 : Int) = y_1.1 ∧ y.snd.2.1 = y_1.snd.2.1 ∧ y.2.1.length = y_1.2.1.length ∧ y.snd.2.2 = y_1.snd.2.2 ∧ y.snd.2.1 = y_1.snd.2.1 ∧ y.2.1.length = y_1.2.1.length ∧ y.snd.2.2 = y_1.snd.2.2 ∧ y.2.1 = y_1.2.1 ∧ y.2.1.length = y_1.2.1.length ∧ (∀ (a : Option Addr × List Int × Nat), a ∈ y_1.2.1 → a ∈ y.2.1) ∧ r = r ∧ acc = acc ∧ (32 : Nat) = (32 : Nat) ∧ ou.length = ou.length ∧ c = c ∧ Value.slice none (0 : Nat) (0 : Nat) = Value.slice none (0 : Nat) (0 : Nat) ∧ acc = acc ∧ (32 : Nat) = (32 : Nat) ∧ ou.length = ou.length ∧ c = c ∧ (0 : Int) ≤ y_1.1 ∧ y_1.1 ≤ (↑ou.length : Int) ∧ byH y_1.2.1 = accB acc ++ List.take y_1.1.toNat (outB ou)) ∧ ∀ (y : Int × List (Option Addr × List Int × Nat) × Option Addr × Nat), y.2.1.length = y.2.1.length → (∀ (a : Option Addr × List Int × Nat), a ∈ y.2.1 → True) → acc.length = (32 : Nat) → (∀ (a : Int × Int × List Int), a ∈ acc → a.2.2.length = (32 : Nat)) → acc.length = (32 : Nat) → (∀ (a : Int × Int × List Int), a ∈ acc → a.2.2.length = (32 : Nat)) → (0 : Int) ≤ y.1 → y.1 ≤ (↑ou.length : Int) → byH y.2.1 = accB acc ++ List.take y.1.toNat (outB ou) → (decide (y.1 < (↑ou.length : Int)) = true → (0 : Int) ≤ y.1 ∧ y.1 < (↑ou.length : Int) ∧ y.1.toNat < ou.length ∧ y.1.toNat < ou.length ∧ ∀ (b : Nat) (y_1 : Option Addr × Nat), (e16 (ou.getD y.1.toNat ((0, 0) : Int × Int)).1 (ou.getD y.1.toNat ((0, 0) : Int × Int)).2).length = (e16 (ou.getD y.1.toNat ((0, 0) : Int × Int)).1 (ou.getD y.1.toNat ((0, 0) : Int × Int)).2).length → (e16 (ou.getD y.1.toNat ((0, 0) : Int × Int)).1 (ou.getD y.1.toNat ((0, 0) : Int × Int)).2).length ≤ y_1.2 → ∀ (b : Nat), (e16 (ou.getD y.1.toNat ((0, 0) : Int × Int)).1 (ou.getD y.1.toNat ((0, 0) : Int × Int)).2).length = (e16 (ou.getD y.1.toNat ((0, 0) : Int × Int)).1 (ou.getD y.1.toNat ((0, 0) : Int × Int)).2).length ∧ y.2.1.length = y.2.1.length ∧ y.snd.2.2 = y.snd.2.2 ∧ (1 : Nat) = [(y_1.1, e16 (ou.getD y.1.toNat ((0, 0) : Int × Int)).1 (ou.getD y.1.toNat ((0, 0) : Int × Int)).2, y_1.2)].length ∧ (y.2.1.length + (1 : Nat)) * Proofs.Try.prog.types[(83 : Nat)].bytes ≤ (140737488355328 : Nat) ∧ ∀ (A : Option Addr) (q : Nat), y.2.1.length + (1 : Nat) ≤ q → (-9223372036854775808 : Int) ≤ y.1 + (1 : Int) ∧ y.1 + (1 : Int) ≤ (9223372036854775807 : Int) ∧ ∃ (y_2 : Int × List (Option Addr × List Int × Nat) × Option Addr × Nat), y.1 + (1 : Int) = y_2.1 ∧ A = y_2.snd.2.1 ∧ y.2.1.length + (1 : Nat) = y_2.2.1.length ∧ q = y_2.snd.2.2 ∧ A = y_2.snd.2.1 ∧ y.2.1.length + (1 : Nat) = y_2.2.1.length ∧ q = y_2.snd.2.2 ∧ y.2.1 ++ [(y_1.1, e16 (ou.getD y.1.toNat ((0, 0) : Int × Int)).1 (ou.getD y.1.toNat ((0, 0) : Int × Int)).2, y_1.2)] = y_2.2.1 ∧ y.2.1.length + [(y_1.1, e16 (ou.getD y.1.toNat ((0, 0) : Int × Int)).1 (ou.getD y.1.toNat ((0, 0) : Int × Int)).2, y_1.2)].length = y_2.2.1.length ∧ (∀ (a : Option Addr × List Int × Nat), a ∈ y_2.2.1 → a ∈ [(y_1.1, e16 (ou.getD y.1.toNat ((0, 0) : Int × Int)).1 (ou.getD y.1.toNat ((0, 0) : Int × Int)).2, y_1.2)] ∨ a ∈ y.2.1) ∧ r = r ∧ acc = acc ∧ (32 : Nat) = (32 : Nat) ∧ ou.length = ou.length ∧ c = c ∧ Value.slice none (0 : Nat) (0 : Nat) = Value.slice none (0 : Nat) (0 : Nat) ∧ acc = acc ∧ (32 : Nat) = (32 : Nat) ∧ ou.length = ou.length ∧ c = c ∧ (0 : Int) ≤ y_2.1 ∧ y_2.1 ≤ (↑ou.length : Int) ∧ byH y_2.2.1 = accB acc ++ List.take y_2.1.toNat (outB ou) ∧ ((↑ou.length : Int) - y_2.1).toNat < ((↑ou.length : Int) - y.1).toNat) ∧ (decide (y.1 < (↑ou.length : Int)) = false → (∃ (y_1 : Int × List ((Option Addr × List Int × Nat) × List Int) × Option Addr × Nat), (0 : Int) = y_1.1 ∧ y_1.snd.2.1 = none ∧ y_1.2.1.length = (0 : Nat) ∧ y_1.snd.2.2 = (0 : Nat) ∧ y_1.2.1 = [] ∧ y_1.2.1.length = (0 : Nat) ∧ y.2.1.length = y.2.1.length ∧ y.snd.2.2 = y.snd.2.2 ∧ y.2.1 = y.2.1 ∧ y.2.1.length = y.2.1.length ∧ (∀ (a : Option Addr × List Int × Nat), a ∈ y.2.1 → a ∈ y.2.1) ∧ (∀ (a : (Option Addr × List Int × Nat) × List Int), a ∈ y_1.2.1 → False) ∧ r = r ∧ acc = acc ∧ (32 : Nat) = (32 : Nat) ∧ ou.length = ou.length ∧ c = c ∧ Value.slice none (0 : Nat) (0 : Nat) = Value.slice y_1.snd.2.1 y_1.2.1.length y_1.snd.2.2 ∧ acc = acc ∧ (32 : Nat) = (32 : Nat) ∧ ou.length = ou.length ∧ c = c ∧ (0 : Int) ≤ y_1.1 ∧ y_1.1 ≤ (↑(accB acc ++ outB ou).length : Int) ∧ ctH y_1.2.1 = List.take y_1.1.toNat (lfL (accB acc ++ outB ou))) ∧ ∀ (y_1 : Int × List ((Option Addr × List Int × Nat) × List Int) × Option Addr × Nat), y_1.2.1.length = y_1.2.1.length → (∀ (a : (Option Addr × List Int × Nat) × List Int), a ∈ y_1.2.1 → a.2.length = (32 : Nat)) → y.2.1.length = y.2.1.length → (∀ (a : Option Addr × List Int × Nat), a ∈ y.2.1 → True) → acc.length = (32 : Nat) → (∀ (a : Int × Int × List Int), a ∈ acc → a.2.2.length = (32 : Nat)) → acc.length = (32 : Nat) → (∀ (a : Int × Int × List Int), a ∈ acc → a.2.2.length = (32 : Nat)) → (0 : Int) ≤ y_1.1 → y_1.1 ≤ (↑(accB acc ++ outB ou).length : Int) → ctH y_1.2.1 = List.take y_1.1.toNat (lfL (accB acc ++ outB ou)) → (decide (y_1.1 < (↑y.2.1.length : Int)) = true → (0 : Int) ≤ y_1.1 ∧ y_1.1 < (↑y.2.1.length : Int) ∧ y_1.1.toNat < y.2.1.length ∧ y_1.1.toNat < y.2.1.length ∧ y.2.1.getD y_1.1.toNat (none, [], (0 : Nat)) ∈ y.2.1 ∧ ∀ (b : Nat), (1 : Nat) = (1 : Nat) ∧ (1 : Nat) = (1 : Nat) ∧ (y.2.1.getD y_1.1.toNat (((none, [], 0)) : (Option Addr × List Int × Nat))).2.1.length = (y.2.1.getD y_1.1.toNat (((none, [], 0)) : (Option Addr × List Int × Nat))).2.1.length ∧ ((1 : Nat) + (y.2.1.getD y_1.1.toNat (((none, [], 0)) : (Option Addr × List Int × Nat))).2.1.length) * Proofs.Try.prog.types[(5 : Nat)].bytes ≤ (140737488355328 : Nat) ∧ ∀ (A : Option Addr) (q : Nat), (1 : Nat) + (y.2.1.getD y_1.1.toNat (((none, [], 0)) : (Option Addr × List Int × Nat))).2.1.length ≤ q → ∀ (b : Nat), (1 : Nat) + (y.2.1.getD y_1.1.toNat (((none, [], 0)) : (Option Addr × List Int × Nat))).2.1.length = (1 : Nat) + (y.2.1.getD y_1.1.toNat (((none, [], 0)) : (Option Addr × List Int × Nat))).2.1.length ∧ ([(0 : Int)] ++ (y.2.1.getD y_1.1.toNat (((none, [], 0)) : (Option Addr × List Int × Nat))).2.1).length ≤ (140737488355000 : Nat) ∧ ∀ (y_2 : Unit), (shaF ([(0 : Int)] ++ (y.2.1.getD y_1.1.toNat (((none, [], 0)) : (Option Addr × List Int × Nat))).2.1)).length = (32 : Nat) → (shaF ([(0 : Int)] ++ (y.2.1.getD y_1.1.toNat (((none, [], 0)) : (Option Addr × List Int × Nat))).2.1)).length = (32 : Nat) → r = r ∧ ∀ (b b : Nat), (1 : Nat) + (y.2.1.getD y_1.1.toNat (((none, [], 0)) : (Option Addr × List Int × Nat))).2.1.length = ([(0 : Int)] ++ (y.2.1.getD y_1.1.toNat (((none, [], 0)) : (Option Addr × List Int × Nat))).2.1).length ∧ y_1.2.1.length = y_1.2.1.length ∧ y_1.snd.2.2 = y_1.snd.2.2 ∧ (1 : Nat) = [((A, [(0 : Int)] ++ (y.2.1.getD y_1.1.toNat (((none, [], 0)) : (Option Addr × List Int × Nat))).2.1, q), shaF ([(0 : Int)] ++ (y.2.1.getD y_1.1.toNat (((none, [], 0)) : (Option Addr × List Int × Nat))).2.1))].length ∧ (y_1.2.1.length + (1 : Nat)) * Proofs.Try.prog.types[(87 : Nat)].bytes ≤ (140737488355328 : Nat) ∧ ∀ (A_1 : Option Addr) (q_1 : Nat), y_1.2.1.length + (1 : Nat) ≤ q_1 → (-9223372036854775808 : Int) ≤ y_1.1 + (1 : Int) ∧ y_1.1 + (1 : Int) ≤ (9223372036854775807 : Int) ∧ ∃ (y_3 : Int × List ((Option Addr × List Int × Nat) × List Int) × Option Addr × Nat), y_1.1 + (1 : Int) = y_3.1 ∧ A_1 = y_3.snd.2.1 ∧ y_1.2.1.length + (1 : Nat) = y_3.2.1.length ∧ q_1 = y_3.snd.2.2 ∧ y_1.2.1 ++ [((A, [(0 : Int)] ++ (y.2.1.getD y_1.1.toNat (((none, [], 0)) : (Option Addr × List Int × Nat))).2.1, q), shaF ([(0 : Int)] ++ (y.2.1.getD y_1.1.toNat (((none, [], 0)) : (Option Addr × List Int × Nat))).2.1))] = y_3.2.1 ∧ y_1.2.1.length + [((A, [(0 : Int)] ++ (y.2.1.getD y_1.1.toNat (((none, [], 0)) : (Option Addr × List Int × Nat))).2.1, q), shaF ([(0 : Int)] ++ (y.2.1.getD y_1.1.toNat (((none, [], 0)) : (Option Addr × List Int × Nat))).2.1))].length = y_3.2.1.length ∧ y.2.1.length = y.2.1.length ∧ y.snd.2.2 = y.snd.2.2 ∧ y.2.1 = y.2.1 ∧ y.2.1.length = y.2.1.length ∧ (∀ (a : Option Addr × List Int × Nat), a ∈ y.2.1 → a ∈ y.2.1) ∧ (∀ (a : (Option Addr × List Int × Nat) × List Int), a ∈ y_3.2.1 → a ∈ [((A, [(0 : Int)] ++ (y.2.1.getD y_1.1.toNat (((none, [], 0)) : (Option Addr × List Int × Nat))).2.1, q), shaF ([(0 : Int)] ++ (y.2.1.getD y_1.1.toNat (((none, [], 0)) : (Option Addr × List Int × Nat))).2.1))] ∨ a ∈ y_1.2.1) ∧ r = r ∧ acc = acc ∧ (32 : Nat) = (32 : Nat) ∧ ou.length = ou.length ∧ c = c ∧ A_1 = y_3.snd.2.1 ∧ y_1.2.1.length + (1 : Nat) = y_3.2.1.length ∧ q_1 = y_3.snd.2.2 ∧ acc = acc ∧ (32 : Nat) = (32 : Nat) ∧ ou.length = ou.length ∧ c = c ∧ (0 : Int) ≤ y_3.1 ∧ y_3.1 ≤ (↑(accB acc ++ outB ou).length : Int) ∧ ctH y_3.2.1 = List.take y_3.1.toNat (lfL (accB acc ++ outB ou)) ∧ ((↑(accB acc ++ outB ou).length : Int) - y_3.1).toNat < ((↑(accB acc ++ outB ou).length : Int) - y_1.1).toNat) ∧ (decide (y_1.1 < (↑y.2.1.length : Int)) = false → ∀ (b : Nat), ou.length = ou.length ∧ ou.length ≤ (4398046511103 : Nat) ∧ ∀ (y_2 : Option Addr × Nat × Option Addr × Nat), (accL acc).length = (accL acc).length → (∀ (a : List Int), a ∈ accL acc → a.length = (32 : Nat)) → (outL ou).length = (outL ou).length → (∀ (a : List Int), a ∈ outL ou → a.length = (32 : Nat)) → (accL acc).length ≤ y_2.2.1 → (outL ou).length ≤ y_2.snd.2.2 → ((decide ((0 : Int) < (2 : Int)) = true → ((0 : Int) ≤ (0 : Int) ∧ (0 : Int) < (2 : Int)) ∧ ((0 : Int) = (0 : Int) → (-9223372036854775808 : Int) ≤ (32 : Int) - (↑(accL acc).length : Int) ∧ (32 : Int) - (↑(accL acc).length : Int) ≤ (9223372036854775807 : Int) ∧ (accL acc).length = (accL acc).length ∧ y_2.2.1 = y_2.2.1 ∧ (0 : Int) ≤ (32 : Int) - (↑(accL acc).length : Int) ∧ ((accL acc).length + ((32 : Int) - (↑(accL acc).length : Int)).toNat) * Proofs.Try.prog.types[(40 : Nat)].bytes ≤ (140737488355328 : Nat) ∧ ∀ (A : Option Addr) (q : Nat), (accL acc).length + ((32 : Int) - (↑(accL acc).length : Int)).toNat ≤ q → (∃ (y_3 : Nat × Nat × List (List Int) × List ((Option Addr × List Int × Nat) × List Int) × Option Addr × Nat), (accL acc).length + ((32 : Int) - (↑(accL acc).length : Int)).toNat = y_3.2.1 ∧ q = q ∧ (accL acc).length + ((32 : Int) - (↑(accL acc).length : Int)).toNat = (accL acc).length + ((32 : Int) - (↑(accL acc).length : Int)).toNat ∧ q = q ∧ accL acc ++ List.replicate ((32 : Int) - (↑(accL acc).length : Int)).toNat (List.replicate (32 : Nat) (0 : Int)) = y_3.snd.2.1 ∧ (accL acc).length + ((32 : Int) - (↑(accL acc).length : Int)).toNat = (accL acc).length + ((32 : Int) - (↑(accL acc).length : Int)).toNat ∧ (outL ou).length = (outL ou).length ∧ y_2.snd.2.2 = y_2.snd.2.2 ∧ outL ou = outL ou ∧ (outL ou).length = (outL ou).length ∧ List.replicate (2 : Nat) (List.replicate (32 : Nat) (0 : Int)) = List.replicate (2 : Nat) (List.replicate (32 : Nat) (0 : Int)) ∧ (2 : Nat) = (2 : Nat) ∧ y_1.snd.2.1 = y_3.snd.snd.snd.2.1 ∧ y_1.2.1.length = y_3.snd.snd.2.1.length ∧ y_1.snd.2.2 = y_3.snd.snd.snd.2.2 ∧ y_1.2.1 = y_3.snd.snd.2.1 ∧ y_1.2.1.length = y_3.snd.snd.2.1.length ∧ y.2.1.length = y.2.1.length ∧ y.snd.2.2 = y.snd.2.2 ∧ y.2.1 = y.2.1 ∧ y.2.1.length = y.2.1.length ∧ (∀ (a : (Option Addr × List Int × Nat) × List Int), a ∈ y_3.snd.snd.2.1 → a ∈ y_1.2.1) ∧ r = r ∧ acc = acc ∧ (32 : Nat) = (32 : Nat) ∧ ou.length = ou.length ∧ c = c ∧ y_1.snd.2.1 = y_3.snd.snd.snd.2.1 ∧ y_1.2.1.length = y_3.snd.snd.2.1.length ∧ y_1.snd.2.2 = y_3.snd.snd.snd.2.2 ∧ acc = acc ∧ (32 : Nat) = (32 : Nat) ∧ ou.length = ou.length ∧ c = c ∧ y_3.1 ≤ (5 : Nat) ∧ y_3.2.1 = (2 : Nat) ^ ((5 : Nat) - y_3.1) ∧ List.take y_3.2.1 y_3.snd.2.1 = lvl (accL acc ++ List.replicate ((32 : Int) - (↑(accL acc).length : Int)).toNat (List.replicate (32 : Nat) (0 : Int))) y_3.1 ∧ ctH y_3.snd.snd.2.1 = ctH y_1.2.1 ++ prS (accL acc ++ List.replicate ((32 : Int) - (↑(accL acc).length : Int)).toNat (List.replicate (32 : Nat) (0 : Int))) y_3.1) ∧ ∀ (y_3 : Nat × Nat × List (List Int) × List ((Option Addr × List Int × Nat) × List Int) × Option Addr × Nat), y_3.snd.2.1.length = (accL acc).length + ((32 : Int) - (↑(accL acc).length : Int)).toNat → (∀ (a : List Int), a ∈ y_3.snd.2.1 → a.length = (32 : Nat)) → (outL ou).length = (outL ou).length → (∀ (a : List Int), a ∈ outL ou → a.length = (32 : Nat)) → (2 : Nat) = (2 : Nat) → (∀ (a : List Int), a ∈ List.replicate (2 : Nat) (List.replicate (32 : Nat) (0 : Int)) → a.length = (32 : Nat)) → y_3.snd.snd.2.1.length = y_3.snd.snd.2.1.length → (∀ (a : (Option Addr × List Int × Nat) × List Int), a ∈ y_3.snd.snd.2.1 → a.2.length = (32 : Nat)) → y.2.1.length = y.2.1.length → (∀ (a : Option Addr × List Int × Nat), a ∈ y.2.1 → True) → acc.length = (32 : Nat) → (∀ (a : Int × Int × List Int), a ∈ acc → a.2.2.length = (32 : Nat)) → acc.length = (32 : Nat) → (∀ (a : Int × Int × List Int), a ∈ acc → a.2.2.length = (32 : Nat)) → y_3.1 ≤ (5 : Nat) → y_3.2.1 = (2 : Nat) ^ ((5 : Nat) - y_3.1) → List.take y_3.2.1 y_3.snd.2.1 = lvl (accL acc ++ List.replicate ((32 : Int) - (↑(accL acc).length : Int)).toNat (List.replicate (32 : Nat) (0 : Int))) y_3.1 → ctH y_3.snd.snd.2.1 = ctH y_1.2.1 ++ prS (accL acc ++ List.replicate ((32 : Int) - (↑(accL acc).length : Int)).toNat (List.replicate (32 : Nat) (0 : Int))) y_3.1 → (decide ((1 : Int) < (↑y_3.2.1 : Int)) = true → (0 : Int) ≤ (↑y_3.2.1 : Int) ∧ (↑y_3.2.1 : Int) ≤ (9223372036854775807 : Int) ∧ (0 : Int) < (2 : Int) ∧ (∃ (y_4 : Int × List (List Int) × List ((Option Addr × List Int × Nat) × List Int) × Option Addr × Nat), (0 : Int) = y_4.1 ∧ (accL acc).length + ((32 : Int) - (↑(accL acc).length : Int)).toNat = (accL acc).length + ((32 : Int) - (↑(accL acc).length : Int)).toNat ∧ q = q ∧ y_3.snd.2.1 = y_4.2.1 ∧ (accL acc).length + ((32 : Int) - (↑(accL acc).length : Int)).toNat = (accL acc).length + ((32 : Int) - (↑(accL acc).length : Int)).toNat ∧ (outL ou).length = (outL ou).length ∧ y_2.snd.2.2 = y_2.snd.2.2 ∧ outL ou = outL ou ∧ (outL ou).length = (outL ou).length ∧ List.replicate (2 : Nat) (List.replicate (32 : Nat) (0 : Int)) = List.replicate (2 : Nat) (List.replicate (32 : Nat) (0 : Int)) ∧ (2 : Nat) = (2 : Nat) ∧ y_3.snd.snd.snd.2.1 = y_4.snd.snd.2.1 ∧ y_3.snd.snd.2.1.length = y_4.snd.2.1.length ∧ y_3.snd.snd.snd.2.2 = y_4.snd.snd.2.2 ∧ y_3.snd.snd.2.1 = y_4.snd.2.1 ∧ y_3.snd.snd.2.1.length = y_4.snd.2.1.length ∧ y.2.1.length = y.2.1.length ∧ y.snd.2.2 = y.snd.2.2 ∧ y.2.1 = y.2.1 ∧ y.2.1.length = y.2.1.length ∧ (∀ (a : (Option Addr × List Int × Nat) × List Int), a ∈ y_4.snd.2.1 → a ∈ y_3.snd.snd.2.1) ∧ r = r ∧ acc = acc ∧ (32 : Nat) = (32 : Nat) ∧ ou.length = ou.length ∧ c = c ∧ y_3.snd.snd.snd.2.1 = y_4.snd.snd.2.1 ∧ y_3.snd.snd.2.1.length = y_4.snd.2.1.length ∧ y_3.snd.snd.snd.2.2 = y_4.snd.snd.2.2 ∧ acc = acc ∧ (32 : Nat) = (32 : Nat) ∧ ou.length = ou.length ∧ c = c ∧ (0 : Int) ≤ y_4.1 ∧ y_4.1 ≤ (↑(y_3.2.1 / (2 : Nat)) : Int) ∧ y_4.2.1 = itN (stp [] y_3.2.1) y_4.1.toNat y_3.snd.2.1 ∧ ctH y_4.snd.2.1 = ctH y_3.snd.snd.2.1 ++ enL (List.take y_3.2.1 y_3.snd.2.1) y_4.1.toNat) ∧ ∀ (y_4 : Int × List (List Int) × List ((Option Addr × List Int × Nat) × List Int) × Option Addr × Nat), y_4.2.1.length = (accL acc).length + ((32 : Int) - (↑(accL acc).length : Int)).toNat → (∀ (a : List Int), a ∈ y_4.2.1 → a.length = (32 : Nat)) → (outL ou).length = (outL ou).length → (∀ (a : List Int), a ∈ outL ou → a.length = (32 : Nat)) → (2 : Nat) = (2 : Nat) → (∀ (a : List Int), a ∈ List.replicate (2 : Nat) (List.replicate (32 : Nat) (0 : Int)) → a.length = (32 : Nat)) → y_4.snd.2.1.length = y_4.snd.2.1.length → (∀ (a : (Option Addr × List Int × Nat) × List Int), a ∈ y_4.snd.2.1 → a.2.length = (32 : Nat)) → y.2.1.length = y.2.1.length → (∀ (a : Option Addr × List Int × Nat), a ∈ y.2.1 → True) → acc.length = (32 : Nat) → (∀ (a : Int × Int × List Int), a ∈ acc → a.2.2.length = (32 : Nat)) → acc.length = (32 : Nat) → (∀ (a : Int × Int × List Int), a ∈ acc → a.2.2.length = (32 : Nat)) → (0 : Int) ≤ y_4.1 → y_4.1 ≤ (↑(y_3.2.1 / (2 : Nat)) : Int) → y_4.2.1 = itN (stp [] y_3.2.1) y_4.1.toNat y_3.snd.2.1 → ctH y_4.snd.2.1 = ctH y_3.snd.snd.2.1 ++ enL (List.take y_3.2.1 y_3.snd.2.1) y_4.1.toNat → (decide (y_4.1 < (↑y_3.2.1 : Int) / (2 : Int)) = true → (-9223372036854775808 : Int) ≤ (2 : Int) * y_4.1 ∧ (2 : Int) * y_4.1 ≤ (9223372036854775807 : Int) ∧ (0 : Int) ≤ (2 : Int) * y_4.1 ∧ (2 : Int) * y_4.1 < (↑y_3.2.1 : Int) ∧ ((2 : Int) * y_4.1).toNat < (accL acc).length + ((32 : Int) - (↑(accL acc).length : Int)).toNat ∧ ((2 : Int) * y_4.1).toNat < (accL acc).length + ((32 : Int) - (↑(accL acc).length : Int)).toNat ∧ (-9223372036854775808 : Int) ≤ (2 : Int) * y_4.1 ∧ (2 : Int) * y_4.1 ≤ (9223372036854775807 : Int) ∧ (-9223372036854775808 : Int) ≤ (2 : Int) * y_4.1 + (1 : Int) ∧ (2 : Int) * y_4.1 + (1 : Int) ≤ (9223372036854775807 : Int) ∧ (0 : Int) ≤ (2 : Int) * y_4.1 + (1 : Int) ∧ (2 : Int) * y_4.1 + (1 : Int) < (↑y_3.2.1 : Int) ∧ ((2 : Int) * y_4.1 + (1 : Int)).toNat < (accL acc).length + ((32 : Int) - (↑(accL acc).length : Int)).toNat ∧ ((2 : Int) * y_4.1 + (1 : Int)).toNat < (accL acc).length + ((32 : Int) - (↑(accL acc).length : Int)).toNat ∧ (∀ (y_5 : Option Addr × Nat), (pairF (y_4.2.1.getD ((2 : Int) * y_4.1).toNat (List.replicate (32 : Nat) (0 : Int))) (y_4.2.1.getD ((2 : Int) * y_4.1 + (1 : Int)).toNat (List.replicate (32 : Nat) (0 : Int)))).length = (32 : Nat) → ([(1 : Int)] ++ y_4.2.1.getD ((2 : Int) * y_4.1).toNat (List.replicate (32 : Nat) (0 : Int)) ++ y_4.2.1.getD ((2 : Int) * y_4.1 + (1 : Int)).toNat (List.replicate (32 : Nat) (0 : Int))).length = ([(1 : Int)] ++ y_4.2.1.getD ((2 : Int) * y_4.1).toNat (List.replicate (32 : Nat) (0 : Int)) ++ y_4.2.1.getD ((2 : Int) * y_4.1 + (1 : Int)).toNat (List.replicate (32 : Nat) (0 : Int))).length → (pairF (y_4.2.1.getD ((2 : Int) * y_4.1).toNat (List.replicate (32 : Nat) (0 : Int))) (y_4.2.1.getD ((2 : Int) * y_4.1 + (1 : Int)).toNat (List.replicate (32 : Nat) (0 : Int)))).length = (32 : Nat) → ([(1 : Int)] ++ y_4.2.1.getD ((2 : Int) * y_4.1).toNat (List.replicate (32 : Nat) (0 : Int)) ++ y_4.2.1.getD ((2 : Int) * y_4.1 + (1 : Int)).toNat (List.replicate (32 : Nat) (0 : Int))).length = (65 : Nat) → ∀ (b : Nat), r = r ∧ ∀ (b b : Nat), ([(1 : Int)] ++ y_4.2.1.getD ((2 : Int) * y_4.1).toNat (List.replicate (32 : Nat) (0 : Int)) ++ y_4.2.1.getD ((2 : Int) * y_4.1 + (1 : Int)).toNat (List.replicate (32 : Nat) (0 : Int))).length = ([(1 : Int)] ++ y_4.2.1.getD ((2 : Int) * y_4.1).toNat (List.replicate (32 : Nat) (0 : Int)) ++ y_4.2.1.getD ((2 : Int) * y_4.1 + (1 : Int)).toNat (List.replicate (32 : Nat) (0 : Int))).length ∧ y_4.snd.2.1.length = y_4.snd.2.1.length ∧ y_4.snd.snd.2.2 = y_4.snd.snd.2.2 ∧ (1 : Nat) = [((y_5.1, [(1 : Int)] ++ y_4.2.1.getD ((2 : Int) * y_4.1).toNat (List.replicate (32 : Nat) (0 : Int)) ++ y_4.2.1.getD ((2 : Int) * y_4.1 + (1 : Int)).toNat (List.replicate (32 : Nat) (0 : Int)), y_5.2), pairF (y_4.2.1.getD ((2 : Int) * y_4.1).toNat (List.replicate (32 : Nat) (0 : Int))) (y_4.2.1.getD ((2 : Int) * y_4.1 + (1 : Int)).toNat (List.replicate (32 : Nat) (0 : Int))))].length ∧ (y_4.snd.2.1.length + (1 : Nat)) * Proofs.Try.prog.types[(87 : Nat)].bytes ≤ (140737488355328 : Nat) ∧ ∀ (A : Option Addr) (q_1 : Nat), y_4.snd.2.1.length + (1 : Nat) ≤ q_1 → (0 : Int) ≤ y_4.1 ∧ y_4.1 < (↑y_3.2.1 : Int) ∧ y_4.1.toNat < (accL acc).length + ((32 : Int) - (↑(accL acc).length : Int)).toNat ∧ y_4.1.toNat < (accL acc).length + ((32 : Int) - (↑(accL acc).length : Int)).toNat ∧ (-9223372036854775808 : Int) ≤ y_4.1 + (1 : Int) ∧ y_4.1 + (1 : Int) ≤ (9223372036854775807 : Int) ∧ ∃ (y_6 : Int × List (List Int) × List ((Option Addr × List Int × Nat) × List Int) × Option Addr × Nat), y_4.1 + (1 : Int) = y_6.1 ∧ (accL acc).length + ((32 : Int) - (↑(accL acc).length : Int)).toNat = (accL acc).length + ((32 : Int) - (↑(accL acc).length : Int)).toNat ∧ q = q ∧ y_4.2.1.set y_4.1.toNat (pairF (y_4.2.1.getD ((2 : Int) * y_4.1).toNat (List.replicate (32 : Nat) (0 : Int))) (y_4.2.1.getD ((2 : Int) * y_4.1 + (1 : Int)).toNat (List.replicate (32 : Nat) (0 : Int)))) = y_6.2.1 ∧ (accL acc).length + ((32 : Int) - (↑(accL acc).length : Int)).toNat = (accL acc).length + ((32 : Int) - (↑(accL acc).length : Int)).toNat ∧ (outL ou).length = (outL ou).length ∧ y_2.snd.2.2 = y_2.snd.2.2 ∧ outL ou = outL ou ∧ (outL ou).length = (outL ou).length ∧ List.replicate (2 : Nat) (List.replicate (32 : Nat) (0 : Int)) = List.replicate (2 : Nat) (List.replicate (32 : Nat) (0 : Int)) ∧ (2 : Nat) = (2 : Nat) ∧ A = y_6.snd.snd.2.1 ∧ y_4.snd.2.1.length + (1 : Nat) = y_6.snd.2.1.length ∧ q_1 = y_6.snd.snd.2.2 ∧ y_4.snd.2.1 ++ [((y_5.1, [(1 : Int)] ++ y_4.2.1.getD ((2 : Int) * y_4.1).toNat (List.replicate (32 : Nat) (0 : Int)) ++ y_4.2.1.getD ((2 : Int) * y_4.1 + (1 : Int)).toNat (List.replicate (32 : Nat) (0 : Int)), y_5.2), pairF (y_4.2.1.getD ((2 : Int) * y_4.1).toNat (List.replicate (32 : Nat) (0 : Int))) (y_4.2.1.getD ((2 : Int) * y_4.1 + (1 : Int)).toNat (List.replicate (32 : Nat) (0 : Int))))] = y_6.snd.2.1 ∧ y_4.snd.2.1.length + [((y_5.1, [(1 : Int)] ++ y_4.2.1.getD ((2 : Int) * y_4.1).toNat (List.replicate (32 : Nat) (0 : Int)) ++ y_4.2.1.getD ((2 : Int) * y_4.1 + (1 : Int)).toNat (List.replicate (32 : Nat) (0 : Int)), y_5.2), pairF (y_4.2.1.getD ((2 : Int) * y_4.1).toNat (List.replicate (32 : Nat) (0 : Int))) (y_4.2.1.getD ((2 : Int) * y_4.1 + (1 : Int)).toNat (List.replicate (32 : Nat) (0 : Int))))].length = y_6.snd.2.1.length ∧ y.2.1.length = y.2.1.length ∧ y.snd.2.2 = y.snd.2.2 ∧ y.2.1 = y.2.1 ∧ y.2.1.length = y.2.1.length ∧ (∀ (a : (Option Addr × List Int × Nat) × List Int), a ∈ y_6.snd.2.1 → a ∈ [((y_5.1, [(1 : Int)] ++ y_4.2.1.getD ((2 : Int) * y_4.1).toNat (List.replicate (32 : Nat) (0 : Int)) ++ y_4.2.1.getD ((2 : Int) * y_4.1 + (1 : Int)).toNat (List.replicate (32 : Nat) (0 : Int)), y_5.2), pairF (y_4.2.1.getD ((2 : Int) * y_4.1).toNat (List.replicate (32 : Nat) (0 : Int))) (y_4.2.1.getD ((2 : Int) * y_4.1 + (1 : Int)).toNat (List.replicate (32 : Nat) (0 : Int))))] ∨ a ∈ y_4.snd.2.1) ∧ r = r ∧ acc = acc ∧ (32 : Nat) = (32 : Nat) ∧ ou.length = ou.length ∧ c = c ∧ A = y_6.snd.snd.2.1 ∧ y_4.snd.2.1.length + (1 : Nat) = y_6.snd.2.1.length ∧ q_1 = y_6.snd.snd.2.2 ∧ acc = acc ∧ (32 : Nat) = (32 : Nat) ∧ ou.length = ou.length ∧ c = c ∧ (0 : Int) ≤ y_6.1 ∧ y_6.1 ≤ (↑(y_3.2.1 / (2 : Nat)) : Int) ∧ y_6.2.1 = itN (stp [] y_3.2.1) y_6.1.toNat y_3.snd.2.1 ∧ ctH y_6.snd.2.1 = ctH y_3.snd.snd.2.1 ++ enL (List.take y_3.2.1 y_3.snd.2.1) y_6.1.toNat ∧ ((↑(y_3.2.1 / (2 : Nat)) : Int) - y_6.1).toNat < ((↑(y_3.2.1 / (2 : Nat)) : Int) - y_4.1).toNat) ∧ ∀ (b : Nat) (y_5 : Option Addr × Nat), (pairF (y_4.2.1.getD ((2 : Int) * y_4.1).toNat (List.replicate (32 : Nat) (0 : Int))) (y_4.2.1.getD ((2 : Int) * y_4.1 + (1 : Int)).toNat (List.replicate (32 : Nat) (0 : Int)))).length = (32 : Nat) → ([(1 : Int)] ++ y_4.2.1.getD ((2 : Int) * y_4.1).toNat (List.replicate (32 : Nat) (0 : Int)) ++ y_4.2.1.getD ((2 : Int) * y_4.1 + (1 : Int)).toNat (List.replicate (32 : Nat) (0 : Int))).length = ([(1 : Int)] ++ y_4.2.1.getD ((2 : Int) * y_4.1).toNat (List.replicate (32 : Nat) (0 : Int)) ++ y_4.2.1.getD ((2 : Int) * y_4.1 + (1 : Int)).toNat (List.replicate (32 : Nat) (0 : Int))).length → (pairF (y_4.2.1.getD ((2 : Int) * y_4.1).toNat (List.replicate (32 : Nat) (0 : Int))) (y_4.2.1.getD ((2 : Int) * y_4.1 + (1 : Int)).toNat (List.replicate (32 : Nat) (0 : Int)))).length = (32 : Nat) → ([(1 : Int)] ++ y_4.2.1.getD ((2 : Int) * y_4.1).toNat (List.replicate (32 : Nat) (0 : Int)) ++ y_4.2.1.getD ((2 : Int) * y_4.1 + (1 : Int)).toNat (List.replicate (32 : Nat) (0 : Int))).length = (65 : Nat) → r = r ∧ ∀ (b b : Nat), ([(1 : Int)] ++ y_4.2.1.getD ((2 : Int) * y_4.1).toNat (List.replicate (32 : Nat) (0 : Int)) ++ y_4.2.1.getD ((2 : Int) * y_4.1 + (1 : Int)).toNat (List.replicate (32 : Nat) (0 : Int))).length = ([(1 : Int)] ++ y_4.2.1.getD ((2 : Int) * y_4.1).toNat (List.replicate (32 : Nat) (0 : Int)) ++ y_4.2.1.getD ((2 : Int) * y_4.1 + (1 : Int)).toNat (List.replicate (32 : Nat) (0 : Int))).length ∧ y_4.snd.2.1.length = y_4.snd.2.1.length ∧ y_4.snd.snd.2.2 = y_4.snd.snd.2.2 ∧ (1 : Nat) = [((y_5.1, [(1 : Int)] ++ y_4.2.1.getD ((2 : Int) * y_4.1).toNat (List.replicate (32 : Nat) (0 : Int)) ++ y_4.2.1.getD ((2 : Int) * y_4.1 + (1 : Int)).toNat (List.replicate (32 : Nat) (0 : Int)), y_5.2), pairF (y_4.2.1.getD ((2 : Int) * y_4.1).toNat (List.replicate (32 : Nat) (0 : Int))) (y_4.2.1.getD ((2 : Int) * y_4.1 + (1 : Int)).toNat (List.replicate (32 : Nat) (0 : Int))))].length ∧ (y_4.snd.2.1.length + (1 : Nat)) * Proofs.Try.prog.types[(87 : Nat)].bytes ≤ (140737488355328 : Nat) ∧ ∀ (A : Option Addr) (q_1 : Nat), y_4.snd.2.1.length + (1 : Nat) ≤ q_1 → (0 : Int) ≤ y_4.1 ∧ y_4.1 < (↑y_3.2.1 : Int) ∧ y_4.1.toNat < (accL acc).length + ((32 : Int) - (↑(accL acc).length : Int)).toNat ∧ y_4.1.toNat < (accL acc).length + ((32 : Int) - (↑(accL acc).length : Int)).toNat ∧ (-9223372036854775808 : Int) ≤ y_4.1 + (1 : Int) ∧ y_4.1 + (1 : Int) ≤ (9223372036854775807 : Int) ∧ ∃ (y_6 : Int × List (List Int) × List ((Option Addr × List Int × Nat) × List Int) × Option Addr × Nat), y_4.1 + (1 : Int) = y_6.1 ∧ (accL acc).length + ((32 : Int) - (↑(accL acc).length : Int)).toNat = (accL acc).length + ((32 : Int) - (↑(accL acc).length : Int)).toNat ∧ q = q ∧ y_4.2.1.set y_4.1.toNat (pairF (y_4.2.1.getD ((2 : Int) * y_4.1).toNat (List.replicate (32 : Nat) (0 : Int))) (y_4.2.1.getD ((2 : Int) * y_4.1 + (1 : Int)).toNat (List.replicate (32 : Nat) (0 : Int)))) = y_6.2.1 ∧ (accL acc).length + ((32 : Int) - (↑(accL acc).length : Int)).toNat = (accL acc).length + ((32 : Int) - (↑(accL acc).length : Int)).toNat ∧ (outL ou).length = (outL ou).length ∧ y_2.snd.2.2 = y_2.snd.2.2 ∧ outL ou = outL ou ∧ (outL ou).length = (outL ou).length ∧ List.replicate (2 : Nat) (List.replicate (32 : Nat) (0 : Int)) = List.replicate (2 : Nat) (List.replicate (32 : Nat) (0 : Int)) ∧ (2 : Nat) = (2 : Nat) ∧ A = y_6.snd.snd.2.1 ∧ y_4.snd.2.1.length + (1 : Nat) = y_6.snd.2.1.length ∧ q_1 = y_6.snd.snd.2.2 ∧ y_4.snd.2.1 ++ [((y_5.1, [(1 : Int)] ++ y_4.2.1.getD ((2 : Int) * y_4.1).toNat (List.replicate (32 : Nat) (0 : Int)) ++ y_4.2.1.getD ((2 : Int) * y_4.1 + (1 : Int)).toNat (List.replicate (32 : Nat) (0 : Int)), y_5.2), pairF (y_4.2.1.getD ((2 : Int) * y_4.1).toNat (List.replicate (32 : Nat) (0 : Int))) (y_4.2.1.getD ((2 : Int) * y_4.1 + (1 : Int)).toNat (List.replicate (32 : Nat) (0 : Int))))] = y_6.snd.2.1 ∧ y_4.snd.2.1.length + [((y_5.1, [(1 : Int)] ++ y_4.2.1.getD ((2 : Int) * y_4.1).toNat (List.replicate (32 : Nat) (0 : Int)) ++ y_4.2.1.getD ((2 : Int) * y_4.1 + (1 : Int)).toNat (List.replicate (32 : Nat) (0 : Int)), y_5.2), pairF (y_4.2.1.getD ((2 : Int) * y_4.1).toNat (List.replicate (32 : Nat) (0 : Int))) (y_4.2.1.getD ((2 : Int) * y_4.1 + (1 : Int)).toNat (List.replicate (32 : Nat) (0 : Int))))].length = y_6.snd.2.1.length ∧ y.2.1.length = y.2.1.length ∧ y.snd.2.2 = y.snd.2.2 ∧ y.2.1 = y.2.1 ∧ y.2.1.length = y.2.1.length ∧ (∀ (a : (Option Addr × List Int × Nat) × List Int), a ∈ y_6.snd.2.1 → a ∈ [((y_5.1, [(1 : Int)] ++ y_4.2.1.getD ((2 : Int) * y_4.1).toNat (List.replicate (32 : Nat) (0 : Int)) ++ y_4.2.1.getD ((2 : Int) * y_4.1 + (1 : Int)).toNat (List.replicate (32 : Nat) (0 : Int)), y_5.2), pairF (y_4.2.1.getD ((2 : Int) * y_4.1).toNat (List.replicate (32 : Nat) (0 : Int))) (y_4.2.1.getD ((2 : Int) * y_4.1 + (1 : Int)).toNat (List.replicate (32 : Nat) (0 : Int))))] ∨ a ∈ y_4.snd.2.1) ∧ r = r ∧ acc = acc ∧ (32 : Nat) = (32 : Nat) ∧ ou.length = ou.length ∧ c = c ∧ A = y_6.snd.snd.2.1 ∧ y_4.snd.2.1.length + (1 : Nat) = y_6.snd.2.1.length ∧ q_1 = y_6.snd.snd.2.2 ∧ acc = acc ∧ (32 : Nat) = (32 : Nat) ∧ ou.length = ou.length ∧ c = c ∧ (0 : Int) ≤ y_6.1 ∧ y_6.1 ≤ (↑(y_3.2.1 / (2 : Nat)) : Int) ∧ y_6.2.1 = itN (stp [] y_3.2.1) y_6.1.toNat y_3.snd.2.1 ∧ ctH y_6.snd.2.1 = ctH y_3.snd.snd.2.1 ++ enL (List.take y_3.2.1 y_3.snd.2.1) y_6.1.toNat ∧ ((↑(y_3.2.1 / (2 : Nat)) : Int) - y_6.1).toNat < ((↑(y_3.2.1 / (2 : Nat)) : Int) - y_4.1).toNat) ∧ (decide (y_4.1 < (↑y_3.2.1 : Int) / (2 : Int)) = false → (0 : Int) ≤ (↑y_3.2.1 : Int) / (2 : Int) ∧ (↑y_3.2.1 : Int) / (2 : Int) ≤ (↑q : Int) ∧ ∃ (y_5 : Nat × Nat × List (List Int) × List ((Option Addr × List Int × Nat) × List Int) × Option Addr × Nat), ((↑y_3.2.1 : Int) / (2 : Int)).toNat = y_5.2.1 ∧ q = q ∧ (accL acc).length + ((32 : Int) - (↑(accL acc).length : Int)).toNat = (accL acc).length + ((32 : Int) - (↑(accL acc).length : Int)).toNat ∧ q = q ∧ y_4.2.1 = y_5.snd.2.1 ∧ (accL acc).length + ((32 : Int) - (↑(accL acc).length : Int)).toNat = (accL acc).length + ((32 : Int) - (↑(accL acc).length : Int)).toNat ∧ (outL ou).length = (outL ou).length ∧ y_2.snd.2.2 = y_2.snd.2.2 ∧ outL ou = outL ou ∧ (outL ou).length = (outL ou).length ∧ List.replicate (2 : Nat) (List.replicate (32 : Nat) (0 : Int)) = List.replicate (2 : Nat) (List.replicate (32 : Nat) (0 : Int)) ∧ (2 : Nat) = (2 : Nat) ∧ y_4.snd.snd.2.1 = y_5.snd.snd.snd.2.1 ∧ y_4.snd.2.1.length = y_5.snd.snd.2.1.length ∧ y_4.snd.snd.2.2 = y_5.snd.snd.snd.2.2 ∧ y_4.snd.2.1 = y_5.snd.snd.2.1 ∧ y_4.snd.2.1.length = y_5.snd.snd.2.1.length ∧ y.2.1.length = y.2.1.length ∧ y.snd.2.2 = y.snd.2.2 ∧ y.2.1 = y.2.1 ∧ y.2.1.length = y.2.1.length ∧ (∀ (a : (Option Addr × List Int × Nat) × List Int), a ∈ y_5.snd.snd.2.1 → a ∈ y_4.snd.2.1) ∧ r = r ∧ acc = acc ∧ (32 : Nat) = (32 : Nat) ∧ ou.length = ou.length ∧ c = c ∧ y_4.snd.snd.2.1 = y_5.snd.snd.snd.2.1 ∧ y_4.snd.2.1.length = y_5.snd.snd.2.1.length ∧ y_4.snd.snd.2.2 = y_5.snd.snd.snd.2.2 ∧ acc = acc ∧ (32 : Nat) = (32 : Nat) ∧ ou.length = ou.length ∧ c = c ∧ y_5.1 ≤ (5 : Nat) ∧ y_5.2.1 = (2 : Nat) ^ ((5 : Nat) - y_5.1) ∧ List.take y_5.2.1 y_5.snd.2.1 = lvl (accL acc ++ List.replicate ((32 : Int) - (↑(accL acc).length : Int)).toNat (List.replicate (32 : Nat) (0 : Int))) y_5.1 ∧ ctH y_5.snd.snd.2.1 = ctH y_1.2.1 ++ prS (accL acc ++ List.replicate ((32 : Int) - (↑(accL acc).length : Int)).toNat (List.replicate (32 : Nat) (0 : Int))) y_5.1 ∧ y_5.2.1 < y_3.2.1)) ∧ (decide ((1 : Int) < (↑y_3.2.1 : Int)) = false → (0 : Int) ≤ (0 : Int) ∧ (0 : Int) < (↑y_3.2.1 : Int) ∧ (0 : Nat) < (accL acc).length + ((32 : Int) - (↑(accL acc).length : Int)).toNat ∧ (0 : Nat) < (accL acc).length + ((32 : Int) - (↑(accL acc).length : Int)).toNat ∧ (0 : Int) ≤ (0 : Int) ∧ (0 : Int) < (2 : Int) ∧ (0 : Nat) < (2 : Nat) ∧ (-9223372036854775808 : Int) ≤ (1 : Int) ∧ (1 : Int) ≤ (9223372036854775807 : Int) ∧ (decide ((1 : Int) < (2 : Int)) = true → ((0 : Int) ≤ (1 : Int) ∧ (1 : Int) < (2 : Int)) ∧ ((1 : Int) = (0 : Int) → (-9223372036854775808 : Int) ≤ (32 : Int) - (↑(accL acc).length : Int) ∧ (32 : Int) - (↑(accL acc).length : Int) ≤ (9223372036854775807 : Int) ∧ False) ∧ ((1 : Int) = (1 : Int) → (-9223372036854775808 : Int) ≤ (32 : Int) - (↑(outL ou).length : Int) ∧ (32 : Int) - (↑(outL ou).length : Int) ≤ (9223372036854775807 : Int) ∧ (outL ou).length = (outL ou).length ∧ y_2.snd.2.2 = y_2.snd.2.2 ∧ (0 : Int) ≤ (32 : Int) - (↑(outL ou).length : Int) ∧ ((outL ou).length + ((32 : Int) - (↑(outL ou).length : Int)).toNat) * Proofs.Try.prog.types[(40 : Nat)].bytes ≤ (140737488355328 : Nat) ∧ ∀ (A : Option Addr) (q_1 : Nat), (outL ou).length + ((32 : Int) - (↑(outL ou).length : Int)).toNat ≤ q_1 → (∃ (y_4 : Nat × Nat × List (List Int) × List ((Option Addr × List Int × Nat) × List Int) × Option Addr × Nat), (outL ou).length + ((32 : Int) - (↑(outL ou).length : Int)).toNat = y_4.2.1 ∧ q_1 = q_1 ∧ (accL acc).length + ((32 : Int) - (↑(accL acc).length : Int)).toNat = (accL acc).length + ((32 : Int) - (↑(accL acc).length : Int)).toNat ∧ q = q ∧ y_3.snd.2.1 = y_3.snd.2.1 ∧ (accL acc).length + ((32 : Int) - (↑(accL acc).length : Int)).toNat = (accL acc).length + ((32 : Int) - (↑(accL acc).length : Int)).toNat ∧ (outL ou).length + ((32 : Int) - (↑(outL ou).length : Int)).toNat = (outL ou).length + ((32 : Int) - (↑(outL ou).length : Int)).toNat ∧ q_1 = q_1 ∧ outL ou ++ List.replicate ((32 : Int) - (↑(outL ou).length : Int)).toNat (List.replicate (32 : Nat) (0 : Int)) = y_4.snd.2.1 ∧ (outL ou).length + ((32 : Int) - (↑(outL ou).length : Int)).toNat = (outL ou).length + ((32 : Int) - (↑(outL ou).length : Int)).toNat ∧ (List.replicate (2 : Nat) (List.replicate (32 : Nat) (0 : Int))).set (0 : Nat) (y_3.snd.2.1.getD (0 : Nat) (List.replicate (32 : Nat) (0 : Int))) = (List.replicate (2 : Nat) (List.replicate (32 : Nat) (0 : Int))).set (0 : Nat) (y_3.snd.2.1.getD (0 : Nat) (List.replicate (32 : Nat) (0 : Int))) ∧ (2 : Nat) = (2 : Nat) ∧ y_3.snd.snd.snd.2.1 = y_4.snd.snd.snd.2.1 ∧ y_3.snd.snd.2.1.length = y_4.snd.snd.2.1.length ∧ y_3.snd.snd.snd.2.2 = y_4.snd.snd.snd.2.2 ∧ y_3.snd.snd.2.1 = y_4.snd.snd.2.1 ∧ y_3.snd.snd.2.1.length = y_4.snd.snd.2.1.length ∧ y.2.1.length = y.2.1.length ∧ y.snd.2.2 = y.snd.2.2 ∧ y.2.1 = y.2.1 ∧ y.2.1.length = y.2.1.length ∧ (∀ (a : (Option Addr × List Int × Nat) × List Int), a ∈ y_4.snd.snd.2.1 → a ∈ y_3.snd.snd.2.1) ∧ r = r ∧ acc = acc ∧ (32 : Nat) = (32 : Nat) ∧ ou.length = ou.length ∧ c = c ∧ y_3.snd.snd.snd.2.1 = y_4.snd.snd.snd.2.1 ∧ y_3.snd.snd.2.1.length = y_4.snd.snd.2.1.length ∧ y_3.snd.snd.snd.2.2 = y_4.snd.snd.snd.2.2 ∧ acc = acc ∧ (32 : Nat) = (32 : Nat) ∧ ou.length = ou.length ∧ c = c ∧ y_4.1 ≤ (5 : Nat) ∧ y_4.2.1 = (2 : Nat) ^ ((5 : Nat) - y_4.1) ∧ List.take y_4.2.1 y_4.snd.2.1 = lvl (outL ou ++ List.replicate ((32 : Int) - (↑(outL ou).length : Int)).toNat (List.replicate (32 : Nat) (0 : Int))) y_4.1 ∧ ctH y_4.snd.snd.2.1 = ctH y_3.snd.snd.2.1 ++ prS (outL ou ++ List.replicate ((32 : Int) - (↑(outL ou).length : Int)).toNat (List.replicate (32 : Nat) (0 : Int))) y_4.1) ∧ ∀ (y_4 : Nat × Nat × List (List Int) × List ((Option Addr × List Int × Nat) × List Int) × Option Addr × Nat), y_3.snd.2.1.length = (accL acc).length + ((32 : Int) - (↑(accL acc).length : Int)).toNat → (∀ (a : List Int), a ∈ y_3.snd.2.1 → a.length = (32 : Nat)) → y_4.snd.2.1.length = (outL ou).length + ((32 : Int) - (↑(outL ou).length : Int)).toNat → (∀ (a : List Int), a ∈ y_4.snd.2.1 → a.length = (32 : Nat)) → ((List.replicate (2 : Nat) (List.replicate (32 : Nat) (0 : Int))).set (0 : Nat) (y_3.snd.2.1.getD (0 : Nat) (List.replicate (32 : Nat) (0 : Int)))).length = (2 : Nat) → (∀ (a : List Int), a ∈ (List.replicate (2 : Nat) (List.replicate (32 : Nat) (0 : Int))).set (0 : Nat) (y_3.snd.2.1.getD (0 : Nat) (List.replicate (32 : Nat) (0 : Int))) → a.length = (32 : Nat)) → y_4.snd.snd.2.1.length = y_4.snd.snd.2.1.length → (∀ (a : (Option Addr × List Int × Nat) × List Int), a ∈ y_4.snd.snd.2.1 → a.2.length = (32 : Nat)) → y.2.1.length = y.2.1.length → (∀ (a : Option Addr × List Int × Nat), a ∈ y.2.1 → True) → acc.length = (32 : Nat) → (∀ (a : Int × Int × List Int), a ∈ acc → a.2.2.length = (32 : Nat)) → acc.length = (32 : Nat) → (∀ (a : Int × Int × List Int), a ∈ acc → a.2.2.length = (32 : Nat)) → y_4.1 ≤ (5 : Nat) → y_4.2.1 = (2 : Nat) ^ ((5 : Nat) - y_4.1) → List.take y_4.2.1 y_4.snd.2.1 = lvl (outL ou ++ List.replicate ((32 : Int) - (↑(outL ou).length : Int)).toNat (List.replicate (32 : Nat) (0 : Int))) y_4.1 → ctH y_4.snd.snd.2.1 = ctH y_3.snd.snd.2.1 ++ prS (outL ou ++ List.replicate ((32 : Int) - (↑(outL ou).length : Int)).toNat (List.replicate (32 : Nat) (0 : Int))) y_4.1 → (decide ((1 : Int) < (↑y_4.2.1 : Int)) = true → (0 : Int) ≤ (↑y_4.2.1 : Int) ∧ (↑y_4.2.1 : Int) ≤ (9223372036854775807 : Int) ∧ (0 : Int) < (2 : Int) ∧ (∃ (y_5 : Int × List (List Int) × List ((Option Addr × List Int × Nat) × List Int) × Option Addr × Nat), (0 : Int) = y_5.1 ∧ (accL acc).length + ((32 : Int) - (↑(accL acc).length : Int)).toNat = (accL acc).length + ((32 : Int) - (↑(accL acc).length : Int)).toNat ∧ q = q ∧ y_3.snd.2.1 = y_3.snd.2.1 ∧ (accL acc).length + ((32 : Int) - (↑(accL acc).length : Int)).toNat = (accL acc).length + ((32 : Int) - (↑(accL acc).length : Int)).toNat ∧ (outL ou).length + ((32 : Int) - (↑(outL ou).length : Int)).toNat = (outL ou).length + ((32 : Int) - (↑(outL ou).length : Int)).toNat ∧ q_1 = q_1 ∧ y_4.snd.2.1 = y_5.2.1 ∧ (outL ou).length + ((32 : Int) - (↑(outL ou).length : Int)).toNat = (outL ou).length + ((32 : Int) - (↑(outL ou).length : Int)).toNat ∧ (List.replicate (2 : Nat) (List.replicate (32 : Nat) (0 : Int))).set (0 : Nat) (y_3.snd.2.1.getD (0 : Nat) (List.replicate (32 : Nat) (0 : Int))) = (List.replicate (2 : Nat) (List.replicate (32 : Nat) (0 : Int))).set (0 : Nat) (y_3.snd.2.1.getD (0 : Nat) (List.replicate (32 : Nat) (0 : Int))) ∧ (2 : Nat) = (2 : Nat) ∧ y_4.snd.snd.snd.2.1 = y_5.snd.snd.2.1 ∧ y_4.snd.snd.2.1.length = y_5.snd.2.1.length ∧ y_4.snd.snd.snd.2.2 = y_5.snd.snd.2.2 ∧ y_4.snd.snd.2.1 = y_5.snd.2.1 ∧ y_4.snd.snd.2.1.length = y_5.snd.2.1.length ∧ y.2.1.length = y.2.1.length ∧ y.snd.2.2 = y.snd.2.2 ∧ y.2.1 = y.2.1 ∧ y.2.1.length = y.2.1.length ∧ (∀ (a : (Option Addr × List Int × Nat) × List Int), a ∈ y_5.snd.2.1 → a ∈ y_4.snd.snd.2.1) ∧ r = r ∧ acc = acc ∧ (32 : Nat) = (32 : Nat) ∧ ou.length = ou.length ∧ c = c ∧ y_4.snd.snd.snd.2.1 = y_5.snd.snd.2.1 ∧ y_4.snd.snd.2.1.length = y_5.snd.2.1.length ∧ y_4.snd.snd.snd.2.2 = y_5.snd.snd.2.2 ∧ acc = acc ∧ (32 : Nat) = (32 : Nat) ∧ ou.length = ou.length ∧ c = c ∧ (0 : Int) ≤ y_5.1 ∧ y_5.1 ≤ (↑(y_4.2.1 / (2 : Nat)) : Int) ∧ y_5.2.1 = itN (stp [] y_4.2.1) y_5.1.toNat y_4.snd.2.1 ∧ ctH y_5.snd.2.1 = ctH y_4.snd.snd.2.1 ++ enL (List.take y_4.2.1 y_4.snd.2.1) y_5.1.toNat) ∧ ∀ (y_5 : Int × List (List Int) × List ((Option Addr × List Int × Nat) × List Int) × Option Addr × Nat), y_3.snd.2.1.length = (accL acc).length + ((32 : Int) - (↑(accL acc).length : Int)).toNat → (∀ (a : List Int), a ∈ y_3.snd.2.1 → a.length = (32 : Nat)) → y_5.2.1.length = (outL ou).length + ((32 : Int) - (↑(outL ou).length : Int)).toNat → (∀ (a : List Int), a ∈ y_5.2.1 → a.length = (32 : Nat)) → ((List.replicate (2 : Nat) (List.replicate (32 : Nat) (0 : Int))).set (0 : Nat) (y_3.snd.2.1.getD (0 : Nat) (List.replicate (32 : Nat) (0 : Int)))).length = (2 : Nat) → (∀ (a : List Int), a ∈ (List.replicate (2 : Nat) (List.replicate (32 : Nat) (0 : Int))).set (0 : Nat) (y_3.snd.2.1.getD (0 : Nat) (List.replicate (32 : Nat) (0 : Int))) → a.length = (32 : Nat)) → y_5.snd.2.1.length = y_5.snd.2.1.length → (∀ (a : (Option Addr × List Int × Nat) × List Int), a ∈ y_5.snd.2.1 → a.2.length = (32 : Nat)) → y.2.1.length = y.2.1.length → (∀ (a : Option Addr × List Int × Nat), a ∈ y.2.1 → True) → acc.length = (32 : Nat) → (∀ (a : Int × Int × List Int), a ∈ acc → a.2.2.length = (32 : Nat)) → acc.length = (32 : Nat) → (∀ (a : Int × Int × List Int), a ∈ acc → a.2.2.length = (32 : Nat)) → (0 : Int) ≤ y_5.1 → y_5.1 ≤ (↑(y_4.2.1 / (2 : Nat)) : Int) → y_5.2.1 = itN (stp [] y_4.2.1) y_5.1.toNat y_4.snd.2.1 → ctH y_5.snd.2.1 = ctH y_4.snd.snd.2.1 ++ enL (List.take y_4.2.1 y_4.snd.2.1) y_5.1.toNat → (decide (y_5.1 < (↑y_4.2.1 : Int) / (2 : Int)) = true → (-9223372036854775808 : Int) ≤ (2 : Int) * y_5.1 ∧ (2 : Int) * y_5.1 ≤ (9223372036854775807 : Int) ∧ (0 : Int) ≤ (2 : Int) * y_5.1 ∧ (2 : Int) * y_5.1 < (↑y_4.2.1 : Int) ∧ ((2 : Int) * y_5.1).toNat < (outL ou).length + ((32 : Int) - (↑(outL ou).length : Int)).toNat ∧ ((2 : Int) * y_5.1).toNat < (outL ou).length + ((32 : Int) - (↑(outL ou).length : Int)).toNat ∧ (-9223372036854775808 : Int) ≤ (2 : Int) * y_5.1 ∧ (2 : Int) * y_5.1 ≤ (9223372036854775807 : Int) ∧ (-9223372036854775808 : Int) ≤ (2 : Int) * y_5.1 + (1 : Int) ∧ (2 : Int) * y_5.1 + (1 : Int) ≤ (9223372036854775807 : Int) ∧ (0 : Int) ≤ (2 : Int) * y_5.1 + (1 : Int) ∧ (2 : Int) * y_5.1 + (1 : Int) < (↑y_4.2.1 : Int) ∧ ((2 : Int) * y_5.1 + (1 : Int)).toNat < (outL ou).length + ((32 : Int) - (↑(outL ou).length : Int)).toNat ∧ ((2 : Int) * y_5.1 + (1 : Int)).toNat < (outL ou).length + ((32 : Int) - (↑(outL ou).length : Int)).toNat ∧ (∀ (y_6 : Option Addr × Nat), (pairF (y_5.2.1.getD ((2 : Int) * y_5.1).toNat (List.replicate (32 : Nat) (0 : Int))) (y_5.2.1.getD ((2 : Int) * y_5.1 + (1 : Int)).toNat (List.replicate (32 : Nat) (0 : Int)))).length = (32 : Nat) → ([(1 : Int)] ++ y_5.2.1.getD ((2 : Int) * y_5.1).toNat (List.replicate (32 : Nat) (0 : Int)) ++ y_5.2.1.getD ((2 : Int) * y_5.1 + (1 : Int)).toNat (List.replicate (32 : Nat) (0 : Int))).length = ([(1 : Int)] ++ y_5.2.1.getD ((2 : Int) * y_5.1).toNat (List.replicate (32 : Nat) (0 : Int)) ++ y_5.2.1.getD ((2 : Int) * y_5.1 + (1 : Int)).toNat (List.replicate (32 : Nat) (0 : Int))).length → (pairF (y_5.2.1.getD ((2 : Int) * y_5.1).toNat (List.replicate (32 : Nat) (0 : Int))) (y_5.2.1.getD ((2 : Int) * y_5.1 + (1 : Int)).toNat (List.replicate (32 : Nat) (0 : Int)))).length = (32 : Nat) → ([(1 : Int)] ++ y_5.2.1.getD ((2 : Int) * y_5.1).toNat (List.replicate (32 : Nat) (0 : Int)) ++ y_5.2.1.getD ((2 : Int) * y_5.1 + (1 : Int)).toNat (List.replicate (32 : Nat) (0 : Int))).length = (65 : Nat) → ∀ (b : Nat), r = r ∧ ∀ (b b : Nat), ([(1 : Int)] ++ y_5.2.1.getD ((2 : Int) * y_5.1).toNat (List.replicate (32 : Nat) (0 : Int)) ++ y_5.2.1.getD ((2 : Int) * y_5.1 + (1 : Int)).toNat (List.replicate (32 : Nat) (0 : Int))).length = ([(1 : Int)] ++ y_5.2.1.getD ((2 : Int) * y_5.1).toNat (List.replicate (32 : Nat) (0 : Int)) ++ y_5.2.1.getD ((2 : Int) * y_5.1 + (1 : Int)).toNat (List.replicate (32 : Nat) (0 : Int))).length ∧ y_5.snd.2.1.length = y_5.snd.2.1.length ∧ y_5.snd.snd.2.2 = y_5.snd.snd.2.2 ∧ (1 : Nat) = [((y_6.1, [(1 : Int)] ++ y_5.2.1.getD ((2 : Int) * y_5.1).toNat (List.replicate (32 : Nat) (0 : Int)) ++ y_5.2.1.getD ((2 : Int) * y_5.1 + (1 : Int)).toNat (List.replicate (32 : Nat) (0 : Int)), y_6.2), pairF (y_5.2.1.getD ((2 : Int) * y_5.1).toNat (List.replicate (32 : Nat) (0 : Int))) (y_5.2.1.getD ((2 : Int) * y_5.1 + (1 : Int)).toNat (List.replicate (32 : Nat) (0 : Int))))].length ∧ (y_5.snd.2.1.length + (1 : Nat)) * Proofs.Try.prog.types[(87 : Nat)].bytes ≤ (140737488355328 : Nat) ∧ ∀ (A : Option Addr) (q_2 : Nat), y_5.snd.2.1.length + (1 : Nat) ≤ q_2 → (0 : Int) ≤ y_5.1 ∧ y_5.1 < (↑y_4.2.1 : Int) ∧ y_5.1.toNat < (outL ou).length + ((32 : Int) - (↑(outL ou).length : Int)).toNat ∧ y_5.1.toNat < (outL ou).length + ((32 : Int) - (↑(outL ou).length : Int)).toNat ∧ (-9223372036854775808 : Int) ≤ y_5.1 + (1 : Int) ∧ y_5.1 + (1 : Int) ≤ (9223372036854775807 : Int) ∧ ∃ (y_7 : Int × List (List Int) × List ((Option Addr × List Int × Nat) × List Int) × Option Addr × Nat), y_5.1 + (1 : Int) = y_7.1 ∧ (accL acc).length + ((32 : Int) - (↑(accL acc).length : Int)).toNat = (accL acc).length + ((32 : Int) - (↑(accL acc).length : Int)).toNat ∧ q = q ∧ y_3.snd.2.1 = y_3.snd.2.1 ∧ (accL acc).length + ((32 : Int) - (↑(accL acc).length : Int)).toNat = (accL acc).length + ((32 : Int) - (↑(accL acc).length : Int)).toNat ∧ (outL ou).length + ((32 : Int) - (↑(outL ou).length : Int)).toNat = (outL ou).length + ((32 : Int) - (↑(outL ou).length : Int)).toNat ∧ q_1 = q_1 ∧ y_5.2.1.set y_5.1.toNat (pairF (y_5.2.1.getD ((2 : Int) * y_5.1).toNat (List.replicate (32 : Nat) (0 : Int))) (y_5.2.1.getD ((2 : Int) * y_5.1 + (1 : Int)).toNat (List.replicate (32 : Nat) (0 : Int)))) = y_7.2.1 ∧ (outL ou).length + ((32 : Int) - (↑(outL ou).length : Int)).toNat = (outL ou).length + ((32 : Int) - (↑(outL ou).length : Int)).toNat ∧ (List.replicate (2 : Nat) (List.replicate (32 : Nat) (0 : Int))).set (0 : Nat) (y_3.snd.2.1.getD (0 : Nat) (List.replicate (32 : Nat) (0 : Int))) = (List.replicate (2 : Nat) (List.replicate (32 : Nat) (0 : Int))).set (0 : Nat) (y_3.snd.2.1.getD (0 : Nat) (List.replicate (32 : Nat) (0 : Int))) ∧ (2 : Nat) = (2 : Nat) ∧ A = y_7.snd.snd.2.1 ∧ y_5.snd.2.1.length + (1 : Nat) = y_7.snd.2.1.length ∧ q_2 = y_7.snd.snd.2.2 ∧ y_5.snd.2.1 ++ [((y_6.1, [(1 : Int)] ++ y_5.2.1.getD ((2 : Int) * y_5.1).toNat (List.replicate (32 : Nat) (0 : Int)) ++ y_5.2.1.getD ((2 : Int) * y_5.1 + (1 : Int)).toNat (List.replicate (32 : Nat) (0 : Int)), y_6.2), pairF (y_5.2.1.getD ((2 : Int) * y_5.1).toNat (List.replicate (32 : Nat) (0 : Int))) (y_5.2.1.getD ((2 : Int) * y_5.1 + (1 : Int)).toNat (List.replicate (32 : Nat) (0 : Int))))] = y_7.snd.2.1 ∧ y_5.snd.2.1.length + [((y_6.1, [(1 : Int)] ++ y_5.2.1.getD ((2 : Int) * y_5.1).toNat (List.replicate (32 : Nat) (0 : Int)) ++ y_5.2.1.getD ((2 : Int) * y_5.1 + (1 : Int)).toNat (List.replicate (32 : Nat) (0 : Int)), y_6.2), pairF (y_5.2.1.getD ((2 : Int) * y_5.1).toNat (List.replicate (32 : Nat) (0 : Int))) (y_5.2.1.getD ((2 : Int) * y_5.1 + (1 : Int)).toNat (List.replicate (32 : Nat) (0 : Int))))].length = y_7.snd.2.1.length ∧ y.2.1.length = y.2.1.length ∧ y.snd.2.2 = y.snd.2.2 ∧ y.2.1 = y.2.1 ∧ y.2.1.length = y.2.1.length ∧ (∀ (a : (Option Addr × List Int × Nat) × List Int), a ∈ y_7.snd.2.1 → a ∈ [((y_6.1, [(1 : Int)] ++ y_5.2.1.getD ((2 : Int) * y_5.1).toNat (List.replicate (32 : Nat) (0 : Int)) ++ y_5.2.1.getD ((2 : Int) * y_5.1 + (1 : Int)).toNat (List.replicate (32 : Nat) (0 : Int)), y_6.2), pairF (y_5.2.1.getD ((2 : Int) * y_5.1).toNat (List.replicate (32 : Nat) (0 : Int))) (y_5.2.1.getD ((2 : Int) * y_5.1 + (1 : Int)).toNat (List.replicate (32 : Nat) (0 : Int))))] ∨ a ∈ y_5.snd.2.1) ∧ r = r ∧ acc = acc ∧ (32 : Nat) = (32 : Nat) ∧ ou.length = ou.length ∧ c = c ∧ A = y_7.snd.snd.2.1 ∧ y_5.snd.2.1.length + (1 : Nat) = y_7.snd.2.1.length ∧ q_2 = y_7.snd.snd.2.2 ∧ acc = acc ∧ (32 : Nat) = (32 : Nat) ∧ ou.length = ou.length ∧ c = c ∧ (0 : Int) ≤ y_7.1 ∧ y_7.1 ≤ (↑(y_4.2.1 / (2 : Nat)) : Int) ∧ y_7.2.1 = itN (stp [] y_4.2.1) y_7.1.toNat y_4.snd.2.1 ∧ ctH y_7.snd.2.1 = ctH y_4.snd.snd.2.1 ++ enL (List.take y_4.2.1 y_4.snd.2.1) y_7.1.toNat ∧ ((↑(y_4.2.1 / (2 : Nat)) : Int) - y_7.1).toNat < ((↑(y_4.2.1 / (2 : Nat)) : Int) - y_5.1).toNat) ∧ ∀ (b : Nat) (y_6 : Option Addr × Nat), (pairF (y_5.2.1.getD ((2 : Int) * y_5.1).toNat (List.replicate (32 : Nat) (0 : Int))) (y_5.2.1.getD ((2 : Int) * y_5.1 + (1 : Int)).toNat (List.replicate (32 : Nat) (0 : Int)))).length = (32 : Nat) → ([(1 : Int)] ++ y_5.2.1.getD ((2 : Int) * y_5.1).toNat (List.replicate (32 : Nat) (0 : Int)) ++ y_5.2.1.getD ((2 : Int) * y_5.1 + (1 : Int)).toNat (List.replicate (32 : Nat) (0 : Int))).length = ([(1 : Int)] ++ y_5.2.1.getD ((2 : Int) * y_5.1).toNat (List.replicate (32 : Nat) (0 : Int)) ++ y_5.2.1.getD ((2 : Int) * y_5.1 + (1 : Int)).toNat (List.replicate (32 : Nat) (0 : Int))).length → (pairF (y_5.2.1.getD ((2 : Int) * y_5.1).toNat (List.replicate (32 : Nat) (0 : Int))) (y_5.2.1.getD ((2 : Int) * y_5.1 + (1 : Int)).toNat (List.replicate (32 : Nat) (0 : Int)))).length = (32 : Nat) → ([(1 : Int)] ++ y_5.2.1.getD ((2 : Int) * y_5.1).toNat (List.replicate (32 : Nat) (0 : Int)) ++ y_5.2.1.getD ((2 : Int) * y_5.1 + (1 : Int)).toNat (List.replicate (32 : Nat) (0 : Int))).length = (65 : Nat) → r = r ∧ ∀ (b b : Nat), ([(1 : Int)] ++ y_5.2.1.getD ((2 : Int) * y_5.1).toNat (List.replicate (32 : Nat) (0 : Int)) ++ y_5.2.1.getD ((2 : Int) * y_5.1 + (1 : Int)).toNat (List.replicate (32 : Nat) (0 : Int))).length = ([(1 : Int)] ++ y_5.2.1.getD ((2 : Int) * y_5.1).toNat (List.replicate (32 : Nat) (0 : Int)) ++ y_5.2.1.getD ((2 : Int) * y_5.1 + (1 : Int)).toNat (List.replicate (32 : Nat) (0 : Int))).length ∧ y_5.snd.2.1.length = y_5.snd.2.1.length ∧ y_5.snd.snd.2.2 = y_5.snd.snd.2.2 ∧ (1 : Nat) = [((y_6.1, [(1 : Int)] ++ y_5.2.1.getD ((2 : Int) * y_5.1).toNat (List.replicate (32 : Nat) (0 : Int)) ++ y_5.2.1.getD ((2 : Int) * y_5.1 + (1 : Int)).toNat (List.replicate (32 : Nat) (0 : Int)), y_6.2), pairF (y_5.2.1.getD ((2 : Int) * y_5.1).toNat (List.replicate (32 : Nat) (0 : Int))) (y_5.2.1.getD ((2 : Int) * y_5.1 + (1 : Int)).toNat (List.replicate (32 : Nat) (0 : Int))))].length ∧ (y_5.snd.2.1.length + (1 : Nat)) * Proofs.Try.prog.types[(87 : Nat)].bytes ≤ (140737488355328 : Nat) ∧ ∀ (A : Option Addr) (q_2 : Nat), y_5.snd.2.1.length + (1 : Nat) ≤ q_2 → (0 : Int) ≤ y_5.1 ∧ y_5.1 < (↑y_4.2.1 : Int) ∧ y_5.1.toNat < (outL ou).length + ((32 : Int) - (↑(outL ou).length : Int)).toNat ∧ y_5.1.toNat < (outL ou).length + ((32 : Int) - (↑(outL ou).length : Int)).toNat ∧ (-9223372036854775808 : Int) ≤ y_5.1 + (1 : Int) ∧ y_5.1 + (1 : Int) ≤ (9223372036854775807 : Int) ∧ ∃ (y_7 : Int × List (List Int) × List ((Option Addr × List Int × Nat) × List Int) × Option Addr × Nat), y_5.1 + (1 : Int) = y_7.1 ∧ (accL acc).length + ((32 : Int) - (↑(accL acc).length : Int)).toNat = (accL acc).length + ((32 : Int) - (↑(accL acc).length : Int)).toNat ∧ q = q ∧ y_3.snd.2.1 = y_3.snd.2.1 ∧ (accL acc).length + ((32 : Int) - (↑(accL acc).length : Int)).toNat = (accL acc).length + ((32 : Int) - (↑(accL acc).length : Int)).toNat ∧ (outL ou).length + ((32 : Int) - (↑(outL ou).length : Int)).toNat = (outL ou).length + ((32 : Int) - (↑(outL ou).length : Int)).toNat ∧ q_1 = q_1 ∧ y_5.2.1.set y_5.1.toNat (pairF (y_5.2.1.getD ((2 : Int) * y_5.1).toNat (List.replicate (32 : Nat) (0 : Int))) (y_5.2.1.getD ((2 : Int) * y_5.1 + (1 : Int)).toNat (List.replicate (32 : Nat) (0 : Int)))) = y_7.2.1 ∧ (outL ou).length + ((32 : Int) - (↑(outL ou).length : Int)).toNat = (outL ou).length + ((32 : Int) - (↑(outL ou).length : Int)).toNat ∧ (List.replicate (2 : Nat) (List.replicate (32 : Nat) (0 : Int))).set (0 : Nat) (y_3.snd.2.1.getD (0 : Nat) (List.replicate (32 : Nat) (0 : Int))) = (List.replicate (2 : Nat) (List.replicate (32 : Nat) (0 : Int))).set (0 : Nat) (y_3.snd.2.1.getD (0 : Nat) (List.replicate (32 : Nat) (0 : Int))) ∧ (2 : Nat) = (2 : Nat) ∧ A = y_7.snd.snd.2.1 ∧ y_5.snd.2.1.length + (1 : Nat) = y_7.snd.2.1.length ∧ q_2 = y_7.snd.snd.2.2 ∧ y_5.snd.2.1 ++ [((y_6.1, [(1 : Int)] ++ y_5.2.1.getD ((2 : Int) * y_5.1).toNat (List.replicate (32 : Nat) (0 : Int)) ++ y_5.2.1.getD ((2 : Int) * y_5.1 + (1 : Int)).toNat (List.replicate (32 : Nat) (0 : Int)), y_6.2), pairF (y_5.2.1.getD ((2 : Int) * y_5.1).toNat (List.replicate (32 : Nat) (0 : Int))) (y_5.2.1.getD ((2 : Int) * y_5.1 + (1 : Int)).toNat (List.replicate (32 : Nat) (0 : Int))))] = y_7.snd.2.1 ∧ y_5.snd.2.1.length + [((y_6.1, [(1 : Int)] ++ y_5.2.1.getD ((2 : Int) * y_5.1).toNat (List.replicate (32 : Nat) (0 : Int)) ++ y_5.2.1.getD ((2 : Int) * y_5.1 + (1 : Int)).toNat (List.replicate (32 : Nat) (0 : Int)), y_6.2), pairF (y_5.2.1.getD ((2 : Int) * y_5.1).toNat (List.replicate (32 : Nat) (0 : Int))) (y_5.2.1.getD ((2 : Int) * y_5.1 + (1 : Int)).toNat (List.replicate (32 : Nat) (0 : Int))))].length = y_7.snd.2.1.length ∧ y.2.1.length = y.2.1.length ∧ y.snd.2.2 = y.snd.2.2 ∧ y.2.1 = y.2.1 ∧ y.2.1.length = y.2.1.length ∧ (∀ (a : (Option Addr × List Int × Nat) × List Int), a ∈ y_7.snd.2.1 → a ∈ [((y_6.1, [(1 : Int)] ++ y_5.2.1.getD ((2 : Int) * y_5.1).toNat (List.replicate (32 : Nat) (0 : Int)) ++ y_5.2.1.getD ((2 : Int) * y_5.1 + (1 : Int)).toNat (List.replicate (32 : Nat) (0 : Int)), y_6.2), pairF (y_5.2.1.getD ((2 : Int) * y_5.1).toNat (List.replicate (32 : Nat) (0 : Int))) (y_5.2.1.getD ((2 : Int) * y_5.1 + (1 : Int)).toNat (List.replicate (32 : Nat) (0 : Int))))] ∨ a ∈ y_5.snd.2.1) ∧ r = r ∧ acc = acc ∧ (32 : Nat) = (32 : Nat) ∧ ou.length = ou.length ∧ c = c ∧ A = y_7.snd.snd.2.1 ∧ y_5.snd.2.1.length + (1 : Nat) = y_7.snd.2.1.length ∧ q_2 = y_7.snd.snd.2.2 ∧ acc = acc ∧ (32 : Nat) = (32 : Nat) ∧ ou.length = ou.length ∧ c = c ∧ (0 : Int) ≤ y_7.1 ∧ y_7.1 ≤ (↑(y_4.2.1 / (2 : Nat)) : Int) ∧ y_7.2.1 = itN (stp [] y_4.2.1) y_7.1.toNat y_4.snd.2.1 ∧ ctH y_7.snd.2.1 = ctH y_4.snd.snd.2.1 ++ enL (List.take y_4.2.1 y_4.snd.2.1) y_7.1.toNat ∧ ((↑(y_4.2.1 / (2 : Nat)) : Int) - y_7.1).toNat < ((↑(y_4.2.1 / (2 : Nat)) : Int) - y_5.1).toNat) ∧ (decide (y_5.1 < (↑y_4.2.1 : Int) / (2 : Int)) = false → (0 : Int) ≤ (↑y_4.2.1 : Int) / (2 : Int) ∧ (↑y_4.2.1 : Int) / (2 : Int) ≤ (↑q_1 : Int) ∧ ∃ (y_6 : Nat × Nat × List (List Int) × List ((Option Addr × List Int × Nat) × List Int) × Option Addr × Nat), ((↑y_4.2.1 : Int) / (2 : Int)).toNat = y_6.2.1 ∧ q_1 = q_1 ∧ (accL acc).length + ((32 : Int) - (↑(accL acc).length : Int)).toNat = (accL acc).length + ((32 : Int) - (↑(accL acc).length : Int)).toNat ∧ q = q ∧ y_3.snd.2.1 = y_3.snd.2.1 ∧ (accL acc).length + ((32 : Int) - (↑(accL acc).length : Int)).toNat = (accL acc).length + ((32 : Int) - (↑(accL acc).length : Int)).toNat ∧ (outL ou).length + ((32 : Int) - (↑(outL ou).length : Int)).toNat = (outL ou).length + ((32 : Int) - (↑(outL ou).length : Int)).toNat ∧ q_1 = q_1 ∧ y_5.2.1 = y_6.snd.2.1 ∧ (outL ou).length + ((32 : Int) - (↑(outL ou).length : Int)).toNat = (outL ou).length + ((32 : Int) - (↑(outL ou).length : Int)).toNat ∧ (List.replicate (2 : Nat) (List.replicate (32 : Nat) (0 : Int))).set (0 : Nat) (y_3.snd.2.1.getD (0 : Nat) (List.replicate (32 : Nat) (0 : Int))) = (List.replicate (2 : Nat) (List.replicate (32 : Nat) (0 : Int))).set (0 : Nat) (y_3.snd.2.1.getD (0 : Nat) (List.replicate (32 : Nat) (0 : Int))) ∧ (2 : Nat) = (2 : Nat) ∧ y_5.snd.snd.2.1 = y_6.snd.snd.snd.2.1 ∧ y_5.snd.2.1.length = y_6.snd.snd.2.1.length ∧ y_5.snd.snd.2.2 = y_6.snd.snd.snd.2.2 ∧ y_5.snd.2.1 = y_6.snd.snd.2.1 ∧ y_5.snd.2.1.length = y_6.snd.snd.2.1.length ∧ y.2.1.length = y.2.1.length ∧ y.snd.2.2 = y.snd.2.2 ∧ y.2.1 = y.2.1 ∧ y.2.1.length = y.2.1.length ∧ (∀ (a : (Option Addr × List Int × Nat) × List Int), a ∈ y_6.snd.snd.2.1 → a ∈ y_5.snd.2.1) ∧ r = r ∧ acc = acc ∧ (32 : Nat) = (32 : Nat) ∧ ou.length = ou.length ∧ c = c ∧ y_5.snd.snd.2.1 = y_6.snd.snd.snd.2.1 ∧ y_5.snd.2.1.length = y_6.snd.snd.2.1.length ∧ y_5.snd.snd.2.2 = y_6.snd.snd.snd.2.2 ∧ acc = acc ∧ (32 : Nat) = (32 : Nat) ∧ ou.length = ou.length ∧ c = c ∧ y_6.1 ≤ (5 : Nat) ∧ y_6.2.1 = (2 : Nat) ^ ((5 : Nat) - y_6.1) ∧ List.take y_6.2.1 y_6.snd.2.1 = lvl (outL ou ++ List.replicate ((32 : Int) - (↑(outL ou).length : Int)).toNat (List.replicate (32 : Nat) (0 : Int))) y_6.1 ∧ ctH y_6.snd.snd.2.1 = ctH y_3.snd.snd.2.1 ++ prS (outL ou ++ List.replicate ((32 : Int) - (↑(outL ou).length : Int)).toNat (List.replicate (32 : Nat) (0 : Int))) y_6.1 ∧ y_6.2.1 < y_4.2.1)) ∧ (decide ((1 : Int) < (↑y_4.2.1 : Int)) = false → (0 : Int) ≤ (0 : Int) ∧ (0 : Int) < (↑y_4.2.1 : Int) ∧ (0 : Nat) < (outL ou).length + ((32 : Int) - (↑(outL ou).length : Int)).toNat ∧ (0 : Nat) < (outL ou).length + ((32 : Int) - (↑(outL ou).length : Int)).toNat ∧ (0 : Int) ≤ (1 : Int) ∧ (1 : Int) < (2 : Int) ∧ (1 : Nat) < (2 : Nat) ∧ (-9223372036854775808 : Int) ≤ (2 : Int) ∧ (2 : Int) ≤ (9223372036854775807 : Int) ∧ (decide ((2 : Int) < (2 : Int)) = true → False) ∧ (decide ((2 : Int) < (2 : Int)) = false → ∃ (y_5 : List (List Int) × List ((Option Addr × List Int × Nat) × List Int) × Option Addr × Nat), ((List.replicate (2 : Nat) (List.replicate (32 : Nat) (0 : Int))).set (0 : Nat) (y_3.snd.2.1.getD (0 : Nat) (List.replicate (32 : Nat) (0 : Int)))).set (1 : Nat) (y_4.snd.2.1.getD (0 : Nat) (List.replicate (32 : Nat) (0 : Int))) = y_5.1 ∧ (2 : Nat) = (2 : Nat) ∧ y_4.snd.snd.snd.2.1 = y_5.snd.2.1 ∧ y_4.snd.snd.2.1.length = y_5.2.1.length ∧ y_4.snd.snd.snd.2.2 = y_5.snd.2.2 ∧ y_4.snd.snd.2.1 = y_5.2.1 ∧ y_4.snd.snd.2.1.length = y_5.2.1.length ∧ y.2.1.length = y.2.1.length ∧ y.snd.2.2 = y.snd.2.2 ∧ y.2.1 = y.2.1 ∧ y.2.1.length = y.2.1.length ∧ (∀ (a : (Option Addr × List Int × Nat) × List Int), a ∈ y_5.2.1 → a ∈ y_4.snd.snd.2.1) ∧ r = r ∧ acc = acc ∧ (32 : Nat) = (32 : Nat) ∧ ou.length = ou.length ∧ c = c ∧ y_4.snd.snd.snd.2.1 = y_5.snd.2.1 ∧ y_4.snd.snd.2.1.length = y_5.2.1.length ∧ y_4.snd.snd.snd.2.2 = y_5.snd.2.2 ∧ acc = acc ∧ (32 : Nat) = (32 : Nat) ∧ ou.length = ou.length ∧ c = c ∧ y_5.1.getD (0 : Nat) (List.replicate (32 : Nat) (0 : Int)) = rootH (5 : Int) (accL acc) ∧ y_5.1.getD (1 : Nat) (List.replicate (32 : Nat) (0 : Int)) = rootH (5 : Int) (outL ou) ∧ ctH y_5.2.1 = ctH y_1.2.1 ++ (prS (pdL (accL acc)) (5 : Nat) ++ prS (pdL (outL ou)) (5 : Nat))))) ∧ True) ∧ (decide ((1 : Int) < (2 : Int)) = false → ∃ (y_4 : List (List Int) × List ((Option Addr × List Int × Nat) × List Int) × Option Addr × Nat), (List.replicate (2 : Nat) (List.replicate (32 : Nat) (0 : Int))).set (0 : Nat) (y_3.snd.2.1.getD (0 : Nat) (List.replicate (32 : Nat) (0 : Int))) = y_4.1 ∧ (2 : Nat) = (2 : Nat) ∧ y_3.snd.snd.snd.2.1 = y_4.snd.2.1 ∧ y_3.snd.snd.2.1.length = y_4.2.1.length ∧ y_3.snd.snd.snd.2.2 = y_4.snd.2.2 ∧ y_3.snd.snd.2.1 = y_4.2.1 ∧ y_3.snd.snd.2.1.length = y_4.2.1.length ∧ y.2.1.length = y.2.1.length ∧ y.snd.2.2 = y.snd.2.2 ∧ y.2.1 = y.2.1 ∧ y.2.1.length = y.2.1.length ∧ (∀ (a : (Option Addr × List Int × Nat) × List Int), a ∈ y_4.2.1 → a ∈ y_3.snd.snd.2.1) ∧ r = r ∧ acc = acc ∧ (32 : Nat) = (32 : Nat) ∧ ou.length = ou.length ∧ c = c ∧ y_3.snd.snd.snd.2.1 = y_4.snd.2.1 ∧ y_3.snd.snd.2.1.length = y_4.2.1.length ∧ y_3.snd.snd.snd.2.2 = y_4.snd.2.2 ∧ acc = acc ∧ (32 : Nat) = (32 : Nat) ∧ ou.length = ou.length ∧ c = c ∧ y_4.1.getD (0 : Nat) (List.replicate (32 : Nat) (0 : Int)) = rootH (5 : Int) (accL acc) ∧ y_4.1.getD (1 : Nat) (List.replicate (32 : Nat) (0 : Int)) = rootH (5 : Int) (outL ou) ∧ ctH y_4.2.1 = ctH y_1.2.1 ++ (prS (pdL (accL acc)) (5 : Nat) ++ prS (pdL (outL ou)) (5 : Nat))))) ∧ ((0 : Int) = (1 : Int) → (-9223372036854775808 : Int) ≤ (32 : Int) - (↑(outL ou).length : Int) ∧ (32 : Int) - (↑(outL ou).length : Int) ≤ (9223372036854775807 : Int) ∧ (outL ou).length = (outL ou).length ∧ y_2.snd.2.2 = y_2.snd.2.2 ∧ (0 : Int) ≤ (32 : Int) - (↑(outL ou).length : Int) ∧ ((outL ou).length + ((32 : Int) - (↑(outL ou).length : Int)).toNat) * Proofs.Try.prog.types[(40 : Nat)].bytes ≤ (140737488355328 : Nat) ∧ ∀ (A : Option Addr) (q : Nat), (outL ou).length + ((32 : Int) - (↑(outL ou).length : Int)).toNat ≤ q → (∃ (y : Nat × Nat × List (List Int) × List ((Option Addr × List Int × Nat) × List Int) × Option Addr × Nat), False) ∧ ∀ (y : Nat × Nat × List (List Int) × List ((Option Addr × List Int × Nat) × List Int) × Option Addr × Nat), False) ∧ True) ∧ (decide ((0 : Int) < (2 : Int)) = false → ∃ (y_3 : List (List Int) × List ((Option Addr × List Int × Nat) × List Int) × Option Addr × Nat), List.replicate (2 : Nat) (List.replicate (32 : Nat) (0 : Int)) = y_3.1 ∧ (2 : Nat) = (2 : Nat) ∧ y_1.snd.2.1 = y_3.snd.2.1 ∧ y_1.2.1.length = y_3.2.1.length ∧ y_1.snd.2.2 = y_3.snd.2.2 ∧ y_1.2.1 = y_3.2.1 ∧ y_1.2.1.length = y_3.2.1.length ∧ y.2.1.length = y.2.1.length ∧ y.snd.2.2 = y.snd.2.2 ∧ y.2.1 = y.2.1 ∧ y.2.1.length = y.2.1.length ∧ (∀ (a : (Option Addr × List Int × Nat) × List Int), a ∈ y_3.2.1 → a ∈ y_1.2.1) ∧ r = r ∧ acc = acc ∧ (32 : Nat) = (32 : Nat) ∧ ou.length = ou.length ∧ c = c ∧ y_1.snd.2.1 = y_3.snd.2.1 ∧ y_1.2.1.length = y_3.2.1.length ∧ y_1.snd.2.2 = y_3.snd.2.2 ∧ acc = acc ∧ (32 : Nat) = (32 : Nat) ∧ ou.length = ou.length ∧ c = c ∧ y_3.1.getD (0 : Nat) (List.replicate (32 : Nat) (0 : Int)) = rootH (5 : Int) (accL acc) ∧ y_3.1.getD (1 : Nat) (List.replicate (32 : Nat) (0 : Int)) = rootH (5 : Int) (outL ou) ∧ ctH y_3.2.1 = ctH y_1.2.1 ++ (prS (pdL (accL acc)) (5 : Nat) ++ prS (pdL (outL ou)) (5 : Nat)))) ∧ ∀ (y_3 : List (List Int) × List ((Option Addr × List Int × Nat) × List Int) × Option Addr × Nat), y_3.1.length = (2 : Nat) → (∀ (a : List Int), a ∈ y_3.1 → a.length = (32 : Nat)) → y_3.2.1.length = y_3.2.1.length → (∀ (a : (Option Addr × List Int × Nat) × List Int), a ∈ y_3.2.1 → a.2.length = (32 : Nat)) → y.2.1.length = y.2.1.length → (∀ (a : Option Addr × List Int × Nat), a ∈ y.2.1 → True) → acc.length = (32 : Nat) → (∀ (a : Int × Int × List Int), a ∈ acc → a.2.2.length = (32 : Nat)) → acc.length = (32 : Nat) → (∀ (a : Int × Int × List Int), a ∈ acc → a.2.2.length = (32 : Nat)) → y_3.1.getD (0 : Nat) (List.replicate (32 : Nat) (0 : Int)) = rootH (5 : Int) (accL acc) → y_3.1.getD (1 : Nat) (List.replicate (32 : Nat) (0 : Int)) = rootH (5 : Int) (outL ou) → ctH y_3.2.1 = ctH y_1.2.1 ++ (prS (pdL (accL acc)) (5 : Nat) ++ prS (pdL (outL ou)) (5 : Nat)) → ∀ (y : Option Addr × Nat), (pairF (y_3.1.getD (0 : Nat) (List.replicate (32 : Nat) (0 : Int))) (y_3.1.getD (1 : Nat) (List.replicate (32 : Nat) (0 : Int)))).length = (32 : Nat) → ([(1 : Int)] ++ y_3.1.getD (0 : Nat) (List.replicate (32 : Nat) (0 : Int)) ++ y_3.1.getD (1 : Nat) (List.replicate (32 : Nat) (0 : Int))).length = ([(1 : Int)] ++ y_3.1.getD (0 : Nat) (List.replicate (32 : Nat) (0 : Int)) ++ y_3.1.getD (1 : Nat) (List.replicate (32 : Nat) (0 : Int))).length → (pairF (y_3.1.getD (0 : Nat) (List.replicate (32 : Nat) (0 : Int))) (y_3.1.getD (1 : Nat) (List.replicate (32 : Nat) (0 : Int)))).length = (32 : Nat) → ([(1 : Int)] ++ y_3.1.getD (0 : Nat) (List.replicate (32 : Nat) (0 : Int)) ++ y_3.1.getD (1 : Nat) (List.replicate (32 : Nat) (0 : Int))).length = (65 : Nat) → ∀ (b : Nat), r = r ∧ ∀ (b b : Nat), ([(1 : Int)] ++ y_3.1.getD (0 : Nat) (List.replicate (32 : Nat) (0 : Int)) ++ y_3.1.getD (1 : Nat) (List.replicate (32 : Nat) (0 : Int))).length = ([(1 : Int)] ++ y_3.1.getD (0 : Nat) (List.replicate (32 : Nat) (0 : Int)) ++ y_3.1.getD (1 : Nat) (List.replicate (32 : Nat) (0 : Int))).length ∧ y_3.2.1.length = y_3.2.1.length ∧ y_3.snd.2.2 = y_3.snd.2.2 ∧ (1 : Nat) = [((y.1, [(1 : Int)] ++ y_3.1.getD (0 : Nat) (List.replicate (32 : Nat) (0 : Int)) ++ y_3.1.getD (1 : Nat) (List.replicate (32 : Nat) (0 : Int)), y.2), pairF (y_3.1.getD (0 : Nat) (List.replicate (32 : Nat) (0 : Int))) (y_3.1.getD (1 : Nat) (List.replicate (32 : Nat) (0 : Int))))].length ∧ (y_3.2.1.length + (1 : Nat)) * Proofs.Try.prog.types[(87 : Nat)].bytes ≤ (140737488355328 : Nat) ∧ ∀ (A : Option Addr) (q : Nat), y_3.2.1.length + (1 : Nat) ≤ q → ∀ (y_4 : Unit), (cntF (IntKind.u64.wrap (↑ou.length : Int))).length = (32 : Nat) → (cntF (IntKind.u64.wrap (↑ou.length : Int))).length = (32 : Nat) → ∀ (y_5 : Option Addr × Nat), (pairF (pairF (y_3.1.getD (0 : Nat) (List.replicate (32 : Nat) (0 : Int))) (y_3.1.getD (1 : Nat) (List.replicate (32 : Nat) (0 : Int)))) (cntF (IntKind.u64.wrap (↑ou.length : Int)))).length = (32 : Nat) → ([(1 : Int)] ++ pairF (y_3.1.getD (0 : Nat) (List.replicate (32 : Nat) (0 : Int))) (y_3.1.getD (1 : Nat) (List.replicate (32 : Nat) (0 : Int))) ++ cntF (IntKind.u64.wrap (↑ou.length : Int))).length = ([(1 : Int)] ++ pairF (y_3.1.getD (0 : Nat) (List.replicate (32 : Nat) (0 : Int))) (y_3.1.getD (1 : Nat) (List.replicate (32 : Nat) (0 : Int))) ++ cntF (IntKind.u64.wrap (↑ou.length : Int))).length → (pairF (pairF (y_3.1.getD (0 : Nat) (List.replicate (32 : Nat) (0 : Int))) (y_3.1.getD (1 : Nat) (List.replicate (32 : Nat) (0 : Int)))) (cntF (IntKind.u64.wrap (↑ou.length : Int)))).length = (32 : Nat) → ([(1 : Int)] ++ pairF (y_3.1.getD (0 : Nat) (List.replicate (32 : Nat) (0 : Int))) (y_3.1.getD (1 : Nat) (List.replicate (32 : Nat) (0 : Int))) ++ cntF (IntKind.u64.wrap (↑ou.length : Int))).length = (65 : Nat) → r = r ∧ ∀ (b b : Nat), ([(1 : Int)] ++ pairF (y_3.1.getD (0 : Nat) (List.replicate (32 : Nat) (0 : Int))) (y_3.1.getD (1 : Nat) (List.replicate (32 : Nat) (0 : Int))) ++ cntF (IntKind.u64.wrap (↑ou.length : Int))).length = ([(1 : Int)] ++ pairF (y_3.1.getD (0 : Nat) (List.replicate (32 : Nat) (0 : Int))) (y_3.1.getD (1 : Nat) (List.replicate (32 : Nat) (0 : Int))) ++ cntF (IntKind.u64.wrap (↑ou.length : Int))).length ∧ y_3.2.1.length + (1 : Nat) = y_3.2.1.length + (1 : Nat) ∧ q = q ∧ (1 : Nat) = [((y_5.1, [(1 : Int)] ++ pairF (y_3.1.getD (0 : Nat) (List.replicate (32 : Nat) (0 : Int))) (y_3.1.getD (1 : Nat) (List.replicate (32 : Nat) (0 : Int))) ++ cntF (IntKind.u64.wrap (↑ou.length : Int)), y_5.2), pairF (pairF (y_3.1.getD (0 : Nat) (List.replicate (32 : Nat) (0 : Int))) (y_3.1.getD (1 : Nat) (List.replicate (32 : Nat) (0 : Int)))) (cntF (IntKind.u64.wrap (↑ou.length : Int))))].length ∧ (y_3.2.1.length + (1 : Nat) + (1 : Nat)) * Proofs.Try.prog.types[(87 : Nat)].bytes ≤ (140737488355328 : Nat) ∧ ∀ (A : Option Addr) (q : Nat), y_3.2.1.length + (1 : Nat) + (1 : Nat) ≤ q → ∃ (y_6 : Option Addr × Nat × List ((Option Addr × List Int × Nat) × List Int) × Int), A = y_6.1 ∧ y_3.2.1.length + (1 : Nat) + (1 : Nat) = y_6.snd.2.1.length ∧ q = y_6.2.1 ∧ (0 : Int) = y_6.snd.2.2 ∧ A = y_6.1 ∧ y_3.2.1.length + (1 : Nat) + (1 : Nat) = y_6.snd.2.1.length ∧ q = y_6.2.1 ∧ y_3.2.1 ++ [((y.1, [(1 : Int)] ++ y_3.1.getD (0 : Nat) (List.replicate (32 : Nat) (0 : Int)) ++ y_3.1.getD (1 : Nat) (List.replicate (32 : Nat) (0 : Int)), y.2), pairF (y_3.1.getD (0 : Nat) (List.replicate (32 : Nat) (0 : Int))) (y_3.1.getD (1 : Nat) (List.replicate (32 : Nat) (0 : Int))))] ++ [((y_5.1, [(1 : Int)] ++ pairF (y_3.1.getD (0 : Nat) (List.replicate (32 : Nat) (0 : Int))) (y_3.1.getD (1 : Nat) (List.replicate (32 : Nat) (0 : Int))) ++ cntF (IntKind.u64.wrap (↑ou.length : Int)), y_5.2), pairF (pairF (y_3.1.getD (0 : Nat) (List.replicate (32 : Nat) (0 : Int))) (y_3.1.getD (1 : Nat) (List.replicate (32 : Nat) (0 : Int)))) (cntF (IntKind.u64.wrap (↑ou.length : Int))))] = y_6.snd.2.1 ∧ y_3.2.1.length + [((y.1, [(1 : Int)] ++ y_3.1.getD (0 : Nat) (List.replicate (32 : Nat) (0 : Int)) ++ y_3.1.getD (1 : Nat) (List.replicate (32 : Nat) (0 : Int)), y.2), pairF (y_3.1.getD (0 : Nat) (List.replicate (32 : Nat) (0 : Int))) (y_3.1.getD (1 : Nat) (List.replicate (32 : Nat) (0 : Int))))].length + [((y_5.1, [(1 : Int)] ++ pairF (y_3.1.getD (0 : Nat) (List.replicate (32 : Nat) (0 : Int))) (y_3.1.getD (1 : Nat) (List.replicate (32 : Nat) (0 : Int))) ++ cntF (IntKind.u64.wrap (↑ou.length : Int)), y_5.2), pairF (pairF (y_3.1.getD (0 : Nat) (List.replicate (32 : Nat) (0 : Int))) (y_3.1.getD (1 : Nat) (List.replicate (32 : Nat) (0 : Int)))) (cntF (IntKind.u64.wrap (↑ou.length : Int))))].length = y_6.snd.2.1.length ∧ (∀ (a : (Option Addr × List Int × Nat) × List Int), a ∈ y_6.snd.2.1 → a ∈ [((y_5.1, [(1 : Int)] ++ pairF (y_3.1.getD (0 : Nat) (List.replicate (32 : Nat) (0 : Int))) (y_3.1.getD (1 : Nat) (List.replicate (32 : Nat) (0 : Int))) ++ cntF (IntKind.u64.wrap (↑ou.length : Int)), y_5.2), pairF (pairF (y_3.1.getD (0 : Nat) (List.replicate (32 : Nat) (0 : Int))) (y_3.1.getD (1 : Nat) (List.replicate (32 : Nat) (0 : Int)))) (cntF (IntKind.u64.wrap (↑ou.length : Int))))] ∨ a ∈ [((y.1, [(1 : Int)] ++ y_3.1.getD (0 : Nat) (List.replicate (32 : Nat) (0 : Int)) ++ y_3.1.getD (1 : Nat) (List.replicate (32 : Nat) (0 : Int)), y.2), pairF (y_3.1.getD (0 : Nat) (List.replicate (32 : Nat) (0 : Int))) (y_3.1.getD (1 : Nat) (List.replicate (32 : Nat) (0 : Int))))] ∨ a ∈ y_3.2.1) ∧ knRes acc ou (ctH y_6.snd.2.1) y_6.snd.2.2))))) (by kernel_rfl) ?_⟩
  simp (maxSteps := 4000000) only [imin, imax, decide_eq_true_eq, decide_eq_false_iff_not, Prod.forall, Prod.exists, exists_eq_left', exists_eq_left, exists_and_left, exists_and_right, exists_eq_right, exists_eq, exists_eq', true_and, and_true, forall_const, exists_const, eq_self, Bool.not_eq_true, Bool.not_eq_eq_eq_not, Bool.not_true, Bool.not_false, Value.slice.injEq, Option.getD_some, imp_self, implies_true, Option.some.injEq, Addr.mk.injEq, true_or, or_true, List.length_cons, List.length_nil, Nat.zero_add, Nat.reduceAdd]
  intro hac hlk ha
  rw [BY1, BYH, BY4, BYh6]
  refine ⟨ha, fun h => ⟨none, 0, [], ⟨rfl, rfl, rfl⟩, rfl, rfl, rfl, rfl, rfl, rfl, .inr ⟨fun o => ?_, rfl, rfl⟩⟩, fun hok => ?_⟩
  · have o := o
    unfold st6 at o
    simp [o.1, o.2] at h
  simp only [Bool.and_eq_true, decide_eq_true_eq] at hok
  have hs : st6 acc ou := hok
  have hon := hs.2
  refine ⟨⟨[], none, 0, ⟨rfl, rfl, rfl⟩, rfl, rfl, rfl, rfl, rfl, rfl, by omega, by omega, rfl⟩, fun k u _ _ _ _ k0 k1 hu => ⟨fun h => ⟨k0, h, by omega, fun A b _ => ?_⟩, fun h => ⟨⟨u, rfl, rfl, rfl, rfl, fun _ _ _ h => h, by omega, by omega, ?_⟩, fun z w _ _ _ _ z0 z1 hw => ⟨fun g => ⟨z0, g, by omega, by omega, fun A b _ => ?_⟩, fun g => ⟨⟨[], rfl, rfl, rfl, fun _ _ _ _ h => by simp at h, rfl, by omega, by omega, rfl⟩, fun k l hl32 _ _ _ _ k0 k1 hl => ⟨fun g => ?_, fun g => ?_⟩⟩⟩⟩⟩⟩
  · have hm : acc.getD k.toNat (0, 0, List.replicate 32 0) ∈ acc := gd_mem (by omega)
    have hul : u.length = k.toNat := by rw [← byH_length, hu, List.length_take, accB_length]; omega
    generalize hx : acc.getD k.toNat (0, 0, List.replicate 32 0) = x at hm
    refine ⟨by omega, fun q _ => ⟨by omega, by omega, u ++ [(A, a48 x.1 x.2.1 x.2.2, b)], by simp, by simp, rfl, by simp, fun a1 a2 a3 hm => ?_, by omega, by omega, ?_, by omega⟩⟩
    · rcases List.mem_append.1 hm with hm | hm
      · exact .inr hm
      · exact .inl hm
    · rw [show (k + 1).toNat = k.toNat + 1 by omega, byH_append, hu, accB, take_snoc (d := (0, 0, List.replicate 32 0)) (by omega), hx]
      rfl
  · rw [hu, List.take_of_length_le (by rw [accB_length]; omega)]
    exact (List.append_nil _).symm
  · have hul : w.length = 32 + z.toNat := by rw [← byH_length, hw, List.length_append, List.length_take, accB_length, outB_length]; omega
    generalize hx : ou.getD z.toNat (0, 0) = x
    refine ⟨by omega, fun q _ => ⟨by omega, by omega, w ++ [(A, e16 x.1 x.2, b)], by simp, by simp, rfl, by simp, fun a1 a2 a3 hm => ?_, by omega, by omega, ?_, by omega⟩⟩
    · rcases List.mem_append.1 hm with hm | hm
      · exact .inr hm
      · exact .inl hm
    · rw [show (z + 1).toNat = z.toNat + 1 by omega, byH_append, hw, outB, take_snoc (d := (0, 0)) (by omega), hx, List.append_assoc]
      rfl
  all_goals
    have hwb : byH w = accB acc ++ outB ou := by rw [hw, List.take_of_length_le (by rw [outB_length]; omega)]
    have hwl : w.length = 32 + ou.length := by rw [← byH_length, hwb, List.length_append, accB_length, outB_length]; omega
    have hbl : (accB acc ++ outB ou).length = 32 + ou.length := by rw [← hwb, byH_length, hwl]
    have hll : l.length = k.toNat := by rw [← ctH_length, hl, List.length_take, lfL_length]; omega
  · obtain ⟨hm, hx⟩ := byH_get (w := w) (k := k.toNat) (by omega)
    rw [hwb] at hx
    have hs48 := accB_small hlk (ou := ou) (List.mem_of_getElem? hx)
    generalize w.getD k.toNat (none, [], 0) = x at hm hx hs48
    refine ⟨k0, g, by omega, by omega, hm, by omega, fun A q _ => ⟨by simp; omega, fun _ _ => ⟨by simp; omega, by omega, fun q1 _ => ⟨by omega, by omega, l ++ [((A, [0] ++ x.2.1, q), shaF ([0] ++ x.2.1))], by simp, rfl, by simp, fun a1 a2 a3 a4 hm => ?_, by simp, by omega, by omega, ?_, by omega⟩⟩⟩⟩
    · rcases List.mem_append.1 hm with hm | hm
      · exact .inr hm
      · exact .inl hm
    · rw [show (k + 1).toNat = k.toNat + 1 by omega, ctH_append, hl, lfL, List.take_add_one, List.getElem?_map, hx]
      rfl
  have hlB : ctH l = lfL (accB acc ++ outB ou) := by rw [hl, List.take_of_length_le (by rw [lfL_length]; omega)]
  have n1 : (accL acc).length ≤ 32 := by rw [accL_length]; omega
  have n2 : (outL ou).length ≤ 32 := by rw [outL_length]; exact hs.2
  have N1 : (accL acc).length + (32 - ((accL acc).length : Int)).toNat = 32 := by omega
  have N2 : (outL ou).length + (32 - ((outL ou).length : Int)).toNat = 32 := by omega
  have P1 : accL acc ++ List.replicate (32 - ((accL acc).length : Int)).toNat (List.replicate 32 0) = pdL (accL acc) := by rw [pdL, show (32 - ((accL acc).length : Int)).toNat = 32 - (accL acc).length by omega]
  have P2 : outL ou ++ List.replicate (32 - ((outL ou).length : Int)).toNat (List.replicate 32 0) = pdL (outL ou) := by rw [pdL, show (32 - ((outL ou).length : Int)).toNat = 32 - (outL ou).length by omega]
  rw [N1, N2, P1, P2]
  refine ⟨by omega, fun _ _ _ _ _ _ => ⟨⟨fun _ => ⟨⟨by omega, by omega⟩, ?_, fun h => absurd h (by decide)⟩, fun h => absurd (by decide) h⟩, fun tp l3 htp _ hl332 _ _ _ _ t0 t1 hl3 => ?_⟩⟩
  · refine ⟨by omega, by omega, by omega, by omega, fun q hq => ⟨⟨0, l, rfl, rfl, rfl, fun _ _ _ _ h => h, rfl, by omega, rfl, List.take_of_length_le (by rw [pdL_length n1]; omega), (List.append_nil _).symm⟩, fun t1 k1 c1 l1 hcl _ _ _ _ _ _ _ _ ht1 hk1 hck1 hl1 => ⟨fun g => ?_, fun g => ?_⟩⟩⟩
    · obtain ⟨ht5, hkh, hev, hk32⟩ := (t5_of ht1 hk1).2 (by omega)
      have hpr := prS_length (pdL_length n1) t1 ht1
      have hll' : l1.length = l.length + (prS (pdL (accL acc)) t1).length := by rw [← ctH_length, hl1, List.length_append, ctH_length]
      refine ⟨by omega, by omega, by omega, ⟨l1, rfl, rfl, rfl, fun _ _ _ _ h => h, rfl, by omega, by omega, rfl, by simp [enL]⟩, fun h d lz hdl _ _ _ _ _ _ _ _ h0 h1 hde hlz => ⟨fun g2 => ?_, fun g2 => ?_⟩⟩
      · have hlzl : lz.length = l1.length + h.toNat := by rw [← ctH_length, hlz, List.length_append, ctH_length, enL_length]
        obtain ⟨s1, s2⟩ := stp0 (n := k1) (show k1 ≤ c1.length by omega) hev (h := h.toNat) (by omega)
        rw [← hde] at s1 s2
        have he : enP (c1.take k1) h.toNat = ([1] ++ d.getD (2 * h.toNat) (List.replicate 32 0) ++ d.getD (2 * h.toNat + 1) (List.replicate 32 0), pairF (d.getD (2 * h.toNat) (List.replicate 32 0)) (d.getD (2 * h.toNat + 1) (List.replicate 32 0))) := by rw [enP, ← s1, ← s2]; rfl
        have hst := stp1 (n := k1) (show k1 ≤ c1.length by omega) (h := h.toNat) (by omega)
        rw [← hde] at hst
        rw [show (2 * h).toNat = 2 * h.toNat by omega, show (2 * h + 1).toNat = 2 * h.toNat + 1 by omega, show (h + 1).toNat = h.toNat + 1 by omega]
        have hst2 : d.set h.toNat (pairF (d.getD (2 * h.toNat) (List.replicate 32 0)) (d.getD (2 * h.toNat + 1) (List.replicate 32 0))) = itN (stp [] k1) (h.toNat + 1) c1 := hst.symm
        generalize d.getD (2 * h.toNat) (List.replicate 32 0) = u at he hst2 ⊢
        generalize d.getD (2 * h.toNat + 1) (List.replicate 32 0) = v at he hst2 ⊢
        refine ⟨by omega, by omega, by omega, by omega, by omega, by omega, by omega, by omega, by omega, by omega, by omega, by omega, by omega, by omega, and_self_iff.2 (fun A b _ _ _ => ⟨by omega, fun q1 _ => ⟨by omega, by omega, by omega, by omega, by omega, by omega, lz ++ [((A, [1] ++ u ++ v, b), pairF u v)], by simp, rfl, by simp, fun a1 a2 a3 a4 hm => ?_, by simp, by omega, by omega, hst2, ?_, by omega⟩⟩)⟩
        · rcases List.mem_append.1 hm with hm | hm
          · exact .inr hm
          · exact .inl hm
        · rw [ctH_append, ctH1, hlz, enL_succ, he, List.append_assoc]
      · have hh2 : h.toNat = k1 / 2 := by omega
        rw [hh2] at hde hlz
        rw [show ((k1 : Int) / 2).toNat = k1 / 2 by omega]
        refine ⟨by omega, by omega, t1 + 1, lz, rfl, rfl, rfl, fun _ _ _ _ h => h, rfl, by omega, hkh, ?_, ?_, by omega⟩
        · rw [hde]; exact stp_lvl (pdL_length n1) ht5 hk1 (by omega) hck1
        · rw [hlz, hl1, List.append_assoc, prS, hck1, lvl32 (pdL_length n1) t1 ht1, ← hk1]
    have ht51 := (t5_of ht1 hk1).1 (by omega)
    subst ht51
    obtain rfl : k1 = 1 := hk1
    rw [pd_root n1] at hck1
    have hroot1 : c1.getD 0 (List.replicate 32 0) = rootH 5 (accL acc) := by
      have e := congrArg (fun l => l.getD 0 (List.replicate 32 0)) hck1
      simp only [List.getD_eq_getElem?_getD, List.getElem?_take] at e
      rw [List.getD_eq_getElem?_getD]
      exact e
    refine ⟨by omega, by omega, by omega, by omega, by omega, by omega, by omega, by omega, by omega, fun _ => ⟨⟨by omega, by omega⟩, fun h => absurd h (by decide), ?_⟩, fun h => absurd (by decide) h⟩
    have hp1 := prS_length (pdL_length n1) 5 (by omega)
    have hll1 : l1.length = l.length + (prS (pdL (accL acc)) 5).length := by rw [← ctH_length, hl1, List.length_append, ctH_length]
    refine ⟨by omega, by omega, by omega, by omega, fun q hq => ⟨⟨0, l1, rfl, rfl, rfl, fun _ _ _ _ h => h, rfl, by omega, rfl, List.take_of_length_le (by rw [pdL_length n2]; omega), (List.append_nil _).symm⟩, fun t2 k2 c2 l2 _ _ hcl _ _ _ _ _ _ _ _ ht2 hk2 hck2 hl2 => ⟨fun g => ?_, fun g => ?_⟩⟩⟩
    · obtain ⟨ht5, hkh, hev, hk32⟩ := (t5_of ht2 hk2).2 (by omega)
      have hpr := prS_length (pdL_length n2) t2 ht2
      have hll' : l2.length = l1.length + (prS (pdL (outL ou)) t2).length := by rw [← ctH_length, hl2, List.length_append, ctH_length]
      refine ⟨by omega, by omega, by omega, ⟨l2, rfl, rfl, rfl, fun _ _ _ _ h => h, rfl, by omega, by omega, rfl, by simp [enL]⟩, fun h d lz _ _ hdl _ _ _ _ _ _ _ _ h0 h1 hde hlz => ⟨fun g2 => ?_, fun g2 => ?_⟩⟩
      · have hlzl : lz.length = l2.length + h.toNat := by rw [← ctH_length, hlz, List.length_append, ctH_length, enL_length]
        obtain ⟨s1, s2⟩ := stp0 (n := k2) (show k2 ≤ c2.length by omega) hev (h := h.toNat) (by omega)
        rw [← hde] at s1 s2
        have he : enP (c2.take k2) h.toNat = ([1] ++ d.getD (2 * h.toNat) (List.replicate 32 0) ++ d.getD (2 * h.toNat + 1) (List.replicate 32 0), pairF (d.getD (2 * h.toNat) (List.replicate 32 0)) (d.getD (2 * h.toNat + 1) (List.replicate 32 0))) := by rw [enP, ← s1, ← s2]; rfl
        have hst := stp1 (n := k2) (show k2 ≤ c2.length by omega) (h := h.toNat) (by omega)
        rw [← hde] at hst
        rw [show (2 * h).toNat = 2 * h.toNat by omega, show (2 * h + 1).toNat = 2 * h.toNat + 1 by omega, show (h + 1).toNat = h.toNat + 1 by omega]
        have hst2 : d.set h.toNat (pairF (d.getD (2 * h.toNat) (List.replicate 32 0)) (d.getD (2 * h.toNat + 1) (List.replicate 32 0))) = itN (stp [] k2) (h.toNat + 1) c2 := hst.symm
        generalize d.getD (2 * h.toNat) (List.replicate 32 0) = u at he hst2 ⊢
        generalize d.getD (2 * h.toNat + 1) (List.replicate 32 0) = v at he hst2 ⊢
        refine ⟨by omega, by omega, by omega, by omega, by omega, by omega, by omega, by omega, by omega, by omega, by omega, by omega, by omega, by omega, and_self_iff.2 (fun A b _ _ _ => ⟨by omega, fun q1 _ => ⟨by omega, by omega, by omega, by omega, by omega, by omega, lz ++ [((A, [1] ++ u ++ v, b), pairF u v)], by simp, rfl, by simp, fun a1 a2 a3 a4 hm => ?_, by simp, by omega, by omega, hst2, ?_, by omega⟩⟩)⟩
        · rcases List.mem_append.1 hm with hm | hm
          · exact .inr hm
          · exact .inl hm
        · rw [ctH_append, ctH1, hlz, enL_succ, he, List.append_assoc]
      · have hh2 : h.toNat = k2 / 2 := by omega
        rw [hh2] at hde hlz
        rw [show ((k2 : Int) / 2).toNat = k2 / 2 by omega]
        refine ⟨by omega, by omega, t2 + 1, lz, rfl, rfl, rfl, fun _ _ _ _ h => h, rfl, by omega, hkh, ?_, ?_, by omega⟩
        · rw [hde]; exact stp_lvl (pdL_length n2) ht5 hk2 (by omega) hck2
        · rw [hlz, hl2, List.append_assoc, prS, hck2, lvl32 (pdL_length n2) t2 ht2, ← hk2]
    have ht52 := (t5_of ht2 hk2).1 (by omega)
    subst ht52
    obtain rfl : k2 = 1 := hk2
    rw [pd_root n2] at hck2
    have hroot2 : c2.getD 0 (List.replicate 32 0) = rootH 5 (outL ou) := by
      have e := congrArg (fun l => l.getD 0 (List.replicate 32 0)) hck2
      simp only [List.getD_eq_getElem?_getD, List.getElem?_take] at e
      rw [List.getD_eq_getElem?_getD]
      exact e
    refine ⟨by omega, by omega, by omega, by omega, by omega, by omega, by omega, by omega, by omega, fun h => absurd h (by decide), fun _ => ⟨l2, rfl, rfl, rfl, fun _ _ _ _ h => h, rfl, hroot1, hroot2, ?_⟩⟩
    rw [hl2, hl1, List.append_assoc]
  · have p1 := prS_length (pdL_length n1) 5 (by omega)
    have p2 := prS_length (pdL_length n2) 5 (by omega)
    have hwr : IntKind.u64.wrap (ou.length : Int) = (ou.length : Int) := by rw [wrap64, Int.emod_eq_of_lt (by omega) (by omega)]
    have hl3l : l3.length = l.length + ((prS (pdL (accL acc)) 5).length + (prS (pdL (outL ou)) 5).length) := by rw [← ctH_length, hl3, List.length_append, List.length_append, ctH_length]
    rw [t0, t1, hwr]
    refine fun A b _ _ _ => ⟨by omega, fun q _ _ _ B b' _ _ _ => ⟨by omega, fun q' _ => ⟨q', l3 ++ [((A, [1] ++ rootH 5 (accL acc) ++ rootH 5 (outL ou), b), pairF (rootH 5 (accL acc)) (rootH 5 (outL ou)))] ++ [((B, [1] ++ pairF (rootH 5 (accL acc)) (rootH 5 (outL ou)) ++ cntF ou.length, b'), pairF (pairF (rootH 5 (accL acc)) (rootH 5 (outL ou))) (cntF ou.length))], by simp, rfl, by simp, rfl, rfl, by simp, fun a1 a2 a3 a4 hm => ?_, .inl ⟨hs, rfl, ?_⟩⟩⟩⟩
    · rcases List.mem_append.1 hm with hm | hm
      · rcases List.mem_append.1 hm with hm | hm
        · exact .inr (.inr hm)
        · exact .inr (.inl hm)
      · exact .inl hm
    · have e : ∀ (a b c : List (List Int × List Int)) x y, a ++ (b ++ c) ++ [x] ++ [y] = a ++ b ++ c ++ [x, y] := by intros; simp
      rw [ctH_append, ctH_append, hl3, hlB, ctH1, ctH1, e, kn6]
      rfl
noncomputable def con_sknown : Con Xp.P FMp := ⟨22, sg_sknown, pr_sknown, ps_sknown, vc_ok (La := la_sknown) (Ca := ca_sknown) 3000 (fn := Go.Proofs.Try.f22) (by kernel_rfl) (c := cd_sknown) (by kernel_rfl) (by kernel_rfl) (by kernel_rfl) (by kernel_rfl) (fun ⟨⟨acc, ⟨⟨A, ⟨ou, c⟩⟩, ⟨⟩⟩⟩, ⟨⟩⟩ => vc_sknown acc A ou c)⟩

end Go.Pw
end
section
/-
  Walks by computing. No condition.
-/
set_option linter.all false
set_option maxRecDepth 100000
set_option maxHeartbeats 1000000
namespace Go.Pw
open Go Go.Px Go.RowKit
attribute [local irreducible] shaF

def kz0 : List Int := [120, 135, 127, 168, 152, 240, 180, 196, 92, 156, 51, 174, 148, 30, 64, 97, 122, 215, 200, 101, 122, 48, 125, 182, 43, 197, 105, 31, 146, 244, 246, 14]
def kz1 : List Int := [129, 149, 211, 167, 232, 86, 189, 155, 247, 52, 100, 100, 44, 30, 145, 119, 199, 224, 251, 233, 207, 116, 88, 226, 87, 47, 78, 124, 38, 118, 118, 199]
def kz2 : List Int := [177, 153, 43, 47, 96, 252, 139, 17, 184, 60, 109, 157, 189, 209, 214, 171, 177, 245, 239, 145, 192, 167, 170, 78, 125, 98, 149, 50, 4, 141, 2, 112]
def kz3 : List Int := [6, 17, 252, 128, 66, 159, 235, 75, 86, 129, 127, 64, 112, 210, 137, 101, 10, 192, 168, 234, 170, 137, 117, 200, 204, 114, 183, 62, 150, 55, 107, 255]
def kz4 : List Int := [80, 215, 237, 2, 177, 68, 167, 84, 135, 112, 44, 159, 95, 170, 234, 7, 187, 154, 115, 133, 225, 82, 30, 128, 246, 8, 3, 153, 251, 154, 15, 253]
def kz5 : List Int := [222, 134, 36, 72, 92, 10, 27, 143, 158, 204, 133, 131, 18, 145, 97, 4, 204, 62, 227, 237, 96, 30, 64, 92, 17, 234, 249, 197, 203, 224, 81, 23]
def ke1 : List Int := [174, 7, 152, 208, 236, 174, 210, 183, 120, 237, 222, 191, 24, 240, 113, 165, 97, 197, 54, 88, 192, 94, 118, 206, 222, 204, 39, 202, 251, 219, 197, 119]
def ke2 : List Int := [144, 83, 79, 224, 175, 246, 219, 158, 219, 41, 238, 231, 78, 120, 163, 134, 145, 106, 88, 28, 142, 100, 101, 52, 148, 147, 225, 166, 200, 114, 65, 225]
def ke3 : List Int := [190, 161, 97, 98, 114, 27, 202, 75, 110, 23, 130, 203, 220, 105, 90, 71, 21, 34, 21, 124, 103, 22, 245, 8, 219, 71, 197, 153, 25, 83, 64, 244]
def ke4 : List Int := [48, 118, 95, 239, 52, 27, 223, 231, 73, 195, 145, 191, 149, 106, 159, 3, 211, 99, 148, 27, 46, 184, 248, 90, 177, 107, 182, 235, 13, 60, 77, 239]
def ke5 : List Int := [241, 160, 167, 26, 101, 80, 196, 27, 200, 212, 218, 196, 241, 134, 182, 210, 116, 168, 57, 242, 249, 90, 217, 227, 187, 101, 29, 69, 129, 12, 90, 31]
def kx0 : List Int := [133, 250, 70, 93, 45, 157, 19, 19, 18, 196, 187, 15, 137, 150, 210, 101, 48, 138, 234, 65, 151, 43, 100, 241, 213, 52, 209, 137, 180, 48, 173, 53]
def kx1 : List Int := [134, 134, 213, 155, 234, 49, 120, 51, 238, 91, 57, 84, 139, 71, 166, 171, 193, 213, 87, 244, 209, 95, 13, 74, 35, 252, 36, 35, 15, 228, 223, 44]
def kx2 : List Int := [104, 239, 163, 154, 178, 23, 14, 117, 117, 134, 42, 37, 186, 157, 187, 64, 244, 145, 190, 110, 31, 239, 97, 215, 241, 159, 9, 0, 162, 199, 130, 200]
def kx3 : List Int := [198, 4, 92, 170, 36, 251, 229, 244, 60, 207, 162, 246, 44, 118, 83, 137, 168, 133, 180, 121, 90, 207, 144, 71, 71, 2, 217, 213, 201, 187, 200, 253]
def kx4 : List Int := [11, 12, 62, 72, 125, 230, 122, 145, 66, 32, 30, 251, 224, 216, 176, 99, 23, 255, 122, 80, 149, 38, 132, 130, 100, 15, 58, 67, 143, 135, 240, 55]
def kx5 : List Int := [194, 91, 237, 90, 145, 14, 177, 122, 228, 106, 212, 240, 66, 216, 250, 168, 80, 129, 46, 60, 164, 180, 183, 103, 215, 170, 56, 154, 17, 191, 179, 96]
def kzb : List Int := [107, 97, 119, 182, 236, 177, 31, 191, 175, 212, 38, 216, 214, 189, 48, 5, 177, 205, 182, 5, 164, 80, 163, 158, 131, 35, 242, 44, 6, 16, 230, 22]
def kzt : List Int := [96, 95, 52, 69, 204, 196, 218, 168, 107, 14, 196, 144, 145, 168, 61, 139, 234, 209, 116, 1, 247, 233, 171, 111, 152, 182, 125, 70, 234, 140, 70, 246]
def kxb : List Int := [138, 205, 76, 55, 124, 196, 169, 251, 75, 31, 203, 121, 249, 66, 73, 152, 128, 134, 238, 158, 43, 38, 75, 54, 245, 169, 161, 252, 192, 151, 215, 108]
def kxt : List Int := [127, 74, 237, 94, 113, 204, 91, 182, 135, 38, 203, 196, 68, 182, 188, 92, 11, 173, 112, 191, 86, 165, 12, 29, 78, 168, 6, 53, 101, 193, 196, 210]
theorem kz0_eq : leafF (a48 0 0 (List.replicate 32 0)) = kz0 := by kernel_rfl
theorem kx0_eq : leafF (a48 1 0 (List.replicate 32 0)) = kx0 := by kernel_rfl
theorem kz1_eq : pr2 kz0 kz0 = kz1 := by kernel_rfl
theorem kz2_eq : pr2 kz1 kz1 = kz2 := by kernel_rfl
theorem kz3_eq : pr2 kz2 kz2 = kz3 := by kernel_rfl
theorem kz4_eq : pr2 kz3 kz3 = kz4 := by kernel_rfl
theorem kz5_eq : pr2 kz4 kz4 = kz5 := by kernel_rfl
theorem ke1_eq : pr2 (List.replicate 32 0) (List.replicate 32 0) = ke1 := by kernel_rfl
theorem ke2_eq : pr2 ke1 ke1 = ke2 := by kernel_rfl
theorem ke3_eq : pr2 ke2 ke2 = ke3 := by kernel_rfl
theorem ke4_eq : pr2 ke3 ke3 = ke4 := by kernel_rfl
theorem ke5_eq : pr2 ke4 ke4 = ke5 := by kernel_rfl
theorem kx1_eq : pr2 kz0 kx0 = kx1 := by kernel_rfl
theorem kx2_eq : pr2 kz1 kx1 = kx2 := by kernel_rfl
theorem kx3_eq : pr2 kx2 kz2 = kx3 := by kernel_rfl
theorem kx4_eq : pr2 kx3 kz3 = kx4 := by kernel_rfl
theorem kx5_eq : pr2 kx4 kz4 = kx5 := by kernel_rfl
theorem kc_eq : cntF 0 = List.replicate 32 0 := by kernel_rfl
theorem kzb_eq : pairF kz5 ke5 = kzb := by kernel_rfl
theorem kzt_eq : pairF kzb (List.replicate 32 0) = kzt := by kernel_rfl
theorem kxb_eq : pairF kx5 ke5 = kxb := by kernel_rfl
theorem kxt_eq : pairF kxb (List.replicate 32 0) = kxt := by kernel_rfl
theorem kzx : kzt ≠ kxt := by decide

end Go.Pw
end
section
/-
  Walks by computing. No condition.
-/
set_option linter.all false
set_option maxRecDepth 100000
set_option maxHeartbeats 1000000
namespace Go.Pw
open Go Go.Px Go.RowKit
attribute [local irreducible] shaF


theorem set_same {α : Type} {l : List α} {i : Nat} {x : α} (h : l[i]? = some x) : l.set i x = l := by
  refine List.ext_getElem? fun k => ?_
  rw [List.getElem?_set]
  split
  · rename_i e; subst e
    rw [if_pos (List.getElem?_eq_some_iff.1 h).1, h]
  · rfl

theorem ckA_prove {acc : List (Int × Int × List Int)} {ou : List (Int × Int)} {i : Int} (hs : st6 acc ou) (hac : acc.length = 32) (h0 : 0 ≤ i) (h1 : i < 32) : ckA (rt6 acc ou) i (acc.getD i.toNat (0, 0, List.replicate 32 0)).1 (acc.getD i.toNat (0, 0, List.replicate 32 0)).2.1 (acc.getD i.toNat (0, 0, List.replicate 32 0)).2.2 (prfL 5 (accL acc) i) (rootH 5 (outL ou)) (ou.length : Int) = true := by
  have hn := hs.2
  have hL : (accL acc).length ≤ 32 := by rw [accL_length, hac]; exact Nat.le_refl _
  have e1 : prfL 5 (accL acc) i = prfN (accL acc) i.toNat 5 := by rw [prfL, if_pos (ask5 h0 (by omega) hL)]; rfl
  have l1 : (prfL 5 (accL acc) i).length = 5 := by rw [e1, prfN_length]
  have hf : fldE i 5 = 0 := fldE5.2 ⟨h0, by omega⟩
  rw [← ckA_yes (by exact l1) (by omega) (by rw [l1]; exact hf)]
  rw [decide_eq_true_eq, rt6, if_pos hs]
  congr 1
  rw [fldH, if_pos (by rw [l1]; exact fldOk5.2 ⟨h0, by omega⟩), l1, e1, root5 hL]
  have hj : i.toNat < 2 ^ 5 := by omega
  have hx : (accL acc)[i.toNat]? = some (leafF (a48 (acc.getD i.toNat (0, 0, List.replicate 32 0)).1 (acc.getD i.toNat (0, 0, List.replicate 32 0)).2.1 (acc.getD i.toNat (0, 0, List.replicate 32 0)).2.2)) := by
    rw [accL, List.getElem?_map, List.getD_eq_getElem?_getD, List.getElem?_eq_getElem (by omega)]
    rfl
  rw [← prfN_pad hL hj, fld_all (padL_length hL) hj, ← rtR_pad 5 (accL acc) hL]
  congr 1
  have hp : (padL 5 (accL acc))[i.toNat]? = some (leafF (a48 (acc.getD i.toNat (0, 0, List.replicate 32 0)).1 (acc.getD i.toNat (0, 0, List.replicate 32 0)).2.1 (acc.getD i.toNat (0, 0, List.replicate 32 0)).2.2)) := by
    rw [padL, List.getElem?_append_left (by rw [accL_length]; omega), hx]
  exact set_same hp
theorem kn6_tail {acc : List (Int × Int × List Int)} {ou : List (Int × Int)} (hac : acc.length = 32) (hon : ou.length ≤ 32) : ∃ X, X.length = 94 + ou.length ∧ kn6 acc ou = X ++ tpE (rootH 5 (accL acc)) (rootH 5 (outL ou)) ou.length := by
  refine ⟨_, ?_, rfl⟩
  have p1 := prS_length (pdL_length (ls := accL acc) (by rw [accL_length]; omega)) 5 (by omega)
  have p2 := prS_length (pdL_length (ls := outL ou) (by rw [outL_length]; omega)) 5 (by omega)
  rw [List.length_append, List.length_append, lfL_length, List.length_append, accB_length, outB_length]
  omega
theorem kn6_length {acc : List (Int × Int × List Int)} {ou : List (Int × Int)} (hac : acc.length = 32) (hon : ou.length ≤ 32) : (kn6 acc ou).length = 96 + ou.length := by
  obtain ⟨X, hX, e⟩ := kn6_tail hac hon
  rw [e, List.length_append, hX, tpE, List.length_cons, List.length_singleton]; omega
theorem kn6_top {acc : List (Int × Int × List Int)} {ou : List (Int × Int)} (hac : acc.length = 32) (hs : st6 acc ou) : ∃ b, (kn6 acc ou)[95 + ou.length]? = some (b, rt6 acc ou) := by
  obtain ⟨X, hX, e⟩ := kn6_tail hac hs.2
  rw [e, List.getElem?_append_right (by omega), show 95 + ou.length - X.length = 1 by omega, rt6, if_pos hs]
  exact ⟨_, rfl⟩
/-! The state of nothing. -/
def repN (a : List Int) : Nat → List Int
  | 0 => a
  | k + 1 => pr2 (repN a k) (repN a k)
theorem half_rep (e a : List Int) : ∀ m, halfL e (List.replicate (2 * m) a) = List.replicate m (pr2 a a)
  | 0 => rfl
  | m + 1 => by
    rw [show 2 * (m + 1) = 2 * m + 1 + 1 by omega, List.replicate_succ, List.replicate_succ, halfL, half_rep e a m, List.replicate_succ]
theorem lvl_rep (a : List Int) : ∀ t, t ≤ 5 → lvl (List.replicate 32 a) t = List.replicate (2 ^ (5 - t)) (repN a t)
  | 0, _ => rfl
  | t + 1, h => by
    rw [lvl, lvl_rep a t (by omega), show 5 - t = (5 - (t + 1)) + 1 by omega, Nat.pow_succ, Nat.mul_comm, half_rep]
    rfl
theorem lvl_repD (a : List Int) {t j : Nat} (h : t ≤ 5) (hj : j < 2 ^ (5 - t)) (d : List Int) : (lvl (List.replicate 32 a) t).getD j d = repN a t := by
  rw [lvl_rep a t h, List.getD_eq_getElem?_getD, List.getElem?_replicate, if_pos hj]; rfl
theorem root_rep (a : List Int) : rootH 5 (List.replicate 32 a) = repN a 5 := by
  have h := pd_root (ls := List.replicate 32 a) (by simp)
  rw [pdL, List.length_replicate, Nat.sub_self, List.replicate_zero, List.append_nil, lvl_rep a 5 (by omega)] at h
  exact (List.cons.inj h).1.symm
theorem prf_rep (a : List Int) : prfL 5 (List.replicate 32 a) 3 = [repN a 0, repN a 1, repN a 2, repN a 3, repN a 4] := by
  rw [prfL, if_pos (ask5 (by omega) (by omega) (by simp))]
  show [(lvl (List.replicate 32 a) 0).getD 2 (emp 0), (lvl (List.replicate 32 a) 1).getD 0 (emp 1), (lvl (List.replicate 32 a) 2).getD 1 (emp 2), (lvl (List.replicate 32 a) 3).getD 1 (emp 3), (lvl (List.replicate 32 a) 4).getD 1 (emp 4)] = _
  rw [lvl_repD a (by omega) (by decide), lvl_repD a (by omega) (by decide), lvl_repD a (by omega) (by decide), lvl_repD a (by omega) (by decide), lvl_repD a (by omega) (by decide)]
theorem rep_z : repN kz0 0 = kz0 ∧ repN kz0 1 = kz1 ∧ repN kz0 2 = kz2 ∧ repN kz0 3 = kz3 ∧ repN kz0 4 = kz4 ∧ repN kz0 5 = kz5 := by
  have h1 : repN kz0 1 = kz1 := kz1_eq
  have h2 : repN kz0 2 = kz2 := by rw [repN, h1, kz2_eq]
  have h3 : repN kz0 3 = kz3 := by rw [repN, h2, kz3_eq]
  have h4 : repN kz0 4 = kz4 := by rw [repN, h3, kz4_eq]
  have h5 : repN kz0 5 = kz5 := by rw [repN, h4, kz5_eq]
  exact ⟨rfl, h1, h2, h3, h4, h5⟩
theorem emp_5 : emp 5 = ke5 := by
  have h1 : emp 1 = ke1 := ke1_eq
  have h2 : emp 2 = ke2 := by have := ke2_eq; rw [pr2] at this; rw [emp, h1, this]
  have h3 : emp 3 = ke3 := by have := ke3_eq; rw [pr2] at this; rw [emp, h2, this]
  have h4 : emp 4 = ke4 := by have := ke4_eq; rw [pr2] at this; rw [emp, h3, this]
  have := ke5_eq; rw [pr2] at this; rw [emp, h4, this]
abbrev A0 : List (Int × Int × List Int) := List.replicate 32 (0, 0, List.replicate 32 0)
theorem acc0 : accL A0 = List.replicate 32 kz0 := by rw [accL, List.map_replicate, kz0_eq]
theorem st0 : st6 A0 [] := ⟨of_decide_eq_true (by kernel_rfl), by decide⟩
theorem a64_0 : a64 A0 := fun j => by
  have e : A0.getD j (0, 0, List.replicate 32 0) = (0, 0, List.replicate 32 0) := by
    rw [List.getD_eq_getElem?_getD, List.getElem?_replicate]; split <;> rfl
  rw [e]; decide
theorem rt0 : rt6 A0 [] = kzt := by
  have e : rootH 5 (outL []) = ke5 := by rw [root5 (by decide), outL, List.map_nil, rtR_nil, emp_5]
  rw [rt6, if_pos st0, acc0, root_rep, rep_z.2.2.2.2.2, e, topF, kzb_eq]
  show pairF kzb (cntF 0) = kzt
  rw [kc_eq, kzt_eq]
theorem ck1_0 : ckA (rt6 A0 []) 3 1 0 (List.replicate 32 0) (prfL 5 (accL A0) 3) (rootH 5 (outL [])) 0 = false := by
  have e : rootH 5 (outL []) = ke5 := by rw [root5 (by decide), outL, List.map_nil, rtR_nil, emp_5]
  obtain ⟨z0, z1, z2, z3, z4, -⟩ := rep_z
  rw [rt0, acc0, prf_rep, e, z0, z1, z2, z3, z4]
  unfold ckA
  have hf : sfoH 3 (a48 1 0 (List.replicate 32 0)) [kz0, kz1, kz2, kz3, kz4] 0 = kx5 := by
    rw [sfoH, if_pos ⟨rfl, by decide⟩, fldH, if_pos (by exact fldOk5.2 ⟨by decide, by decide⟩), kx0_eq]
    have f1 : fldN 3 [kz0, kz1, kz2, kz3, kz4] kx0 1 = kx1 := kx1_eq
    have f2 : fldN 3 [kz0, kz1, kz2, kz3, kz4] kx0 2 = kx2 := by rw [fldN, f1, if_neg (by decide)]; exact kx2_eq
    have f3 : fldN 3 [kz0, kz1, kz2, kz3, kz4] kx0 3 = kx3 := by rw [fldN, f2, if_pos (by decide)]; exact kx3_eq
    have f4 : fldN 3 [kz0, kz1, kz2, kz3, kz4] kx0 4 = kx4 := by rw [fldN, f3, if_pos (by decide)]; exact kx4_eq
    show fldN 3 [kz0, kz1, kz2, kz3, kz4] kx0 5 = kx5
    rw [fldN, f4, if_pos (by decide)]; exact kx5_eq
  rw [hf, topF, kxb_eq, kc_eq, kxt_eq, decide_eq_false (fun h => kzx h.symm), Bool.and_false]
noncomputable def cd_anch06 : Code := (Go.Proofs.Try.f25.body).getD .skip
def sg_anch06 : List Arg := []
def pr_anch06 : SgT FMp sg_anch06 → List Prop
  | () => ([] : List Prop)
def ps_anch06 : SgT FMp sg_anch06 → PS FMp
  | () => (⟨Unit, fun y => [], fun y => one (.bool (true)), fun y => [], fun y => []⟩ : PS FMp)
def la_anch06 : SgT FMp sg_anch06 → List (Nat × (SS FMp → HA FMp))
  | () => ([] : List (Nat × (SS FMp → HA FMp)))
def ca_anch06 : SgT FMp sg_anch06 → List (Nat × (SS FMp → HA FMp))
  | () => ([] : List (Nat × (SS FMp → HA FMp)))
theorem vc_anch06  : Vc (vc (FM := FMp) Xp 67 [con_sknown, con_sroot6, con_sprove, con_schecka] (la_anch06 ()) (ca_anch06 ()) [] [] [.tmp 0] sg_anch06 pr_anch06 ps_anch06 cd_anch06 3000 ()) := by
  refine ⟨Eq.mpr (β := ∀ (b : Nat), a64 (List.replicate (32 : Nat) ((0 : Int), (0 : Int), List.replicate (32 : Nat) (0 : Int))) ∧ ∀ (y : Option Addr × Nat × List ((Option Addr × List Int × Nat) × List Int) × Int), y.snd.2.1.length = y.snd.2.1.length → (∀ (a : (Option Addr × List Int × Nat) × List Int), a ∈ y.snd.2.1 → a.2.length = (32 : Nat)) → knRes (List.replicate (32 : Nat) ((0 : Int), (0 : Int), List.replicate (32 : Nat) (0 : Int))) [] (ctH y.snd.2.1) y.snd.2.2 → a64 (List.replicate (32 : Nat) ((0 : Int), (0 : Int), List.replicate (32 : Nat) (0 : Int))) ∧ ∀ (y_1 : Unit), (32 : Nat) = (32 : Nat) → (32 : Nat) = (32 : Nat) → ∀ (b : Nat), a64 (List.replicate (32 : Nat) ((0 : Int), (0 : Int), List.replicate (32 : Nat) (0 : Int))) ∧ ∀ (y_2 : Option Addr × Nat × List (List Int) × List Int × Int × Int), y_2.snd.snd.2.1.length = (32 : Nat) → y_2.snd.2.1.length = y_2.snd.2.1.length → (∀ (a : List Int), a ∈ y_2.snd.2.1 → a.length = (32 : Nat)) → paRes (List.replicate (32 : Nat) ((0 : Int), (0 : Int), List.replicate (32 : Nat) (0 : Int))) [] (3 : Int) y_2.snd.2.1 y_2.snd.snd.2.1 y_2.snd.snd.snd.2.1 y_2.snd.snd.snd.2.2 → y_2.snd.snd.2.1.length = (32 : Nat) → (∀ (a : List Int), a ∈ y_2.snd.2.1 → a.length = (32 : Nat)) → ∀ (b : Nat), ((decide (y.snd.2.2 = (0 : Int)) && decide ((0 : Int) = (0 : Int)) && decide (y_2.snd.snd.snd.2.2 = (0 : Int)) && decide ((↑y.snd.2.1.length : Int) = (96 : Int))) = true → (0 : Int) ≤ (0 : Int) ∧ (0 : Int) < (↑y.snd.2.1.length : Int) ∧ (fun (p : Prop) => p ∧ p) ((0 : Nat) < y.snd.2.1.length)) ∧ ((decide (y.snd.2.2 = (0 : Int)) && decide ((0 : Int) = (0 : Int)) && decide (y_2.snd.snd.snd.2.2 = (0 : Int)) && decide ((↑y.snd.2.1.length : Int) = (96 : Int)) && decide ((↑(y.snd.2.1.getD (Int.toNat (0 : Int)) (((none, [], 0), List.replicate 32 0) : (Option Addr × List Int × Nat) × List Int)).fst.2.1.length : Int) = (49 : Int))) = true → (0 : Int) ≤ (95 : Int) ∧ (95 : Int) < (↑y.snd.2.1.length : Int) ∧ (fun (p : Prop) => p ∧ p) ((95 : Nat) < y.snd.2.1.length)) ∧ ((decide (y.snd.2.2 = (0 : Int)) && decide ((0 : Int) = (0 : Int)) && decide (y_2.snd.snd.snd.2.2 = (0 : Int)) && decide ((↑y.snd.2.1.length : Int) = (96 : Int)) && decide ((↑(y.snd.2.1.getD (Int.toNat (0 : Int)) (((none, [], 0), List.replicate 32 0) : (Option Addr × List Int × Nat) × List Int)).fst.2.1.length : Int) = (49 : Int)) && decide ((y.snd.2.1.getD (Int.toNat (95 : Int)) (((none, [], 0), List.replicate 32 0) : (Option Addr × List Int × Nat) × List Int)).2 = rt6 (List.replicate (32 : Nat) ((0 : Int), (0 : Int), List.replicate (32 : Nat) (0 : Int))) [])) = true → y_2.snd.2.1.length = y_2.snd.2.1.length ∧ ∀ (y : Unit), (ckA (rt6 (List.replicate (32 : Nat) ((0 : Int), (0 : Int), List.replicate (32 : Nat) (0 : Int))) []) (3 : Int) (0 : Int) (0 : Int) (List.replicate (32 : Nat) (0 : Int)) y_2.snd.2.1 y_2.snd.snd.2.1 y_2.snd.snd.snd.2.1 = true → y_2.snd.2.1.length = y_2.snd.2.1.length ∧ ∀ (y : Unit), ∃ (y : Unit), (!ckA (rt6 (List.replicate (32 : Nat) ((0 : Int), (0 : Int), List.replicate (32 : Nat) (0 : Int))) []) (3 : Int) (1 : Int) (0 : Int) (List.replicate (32 : Nat) (0 : Int)) y_2.snd.2.1 y_2.snd.snd.2.1 y_2.snd.snd.snd.2.1) = true) ∧ (ckA (rt6 (List.replicate (32 : Nat) ((0 : Int), (0 : Int), List.replicate (32 : Nat) (0 : Int))) []) (3 : Int) (0 : Int) (0 : Int) (List.replicate (32 : Nat) (0 : Int)) y_2.snd.2.1 y_2.snd.snd.2.1 y_2.snd.snd.snd.2.1 = false → ∃ (y : Unit), false = true)) ∧ ((decide (y.snd.2.2 = (0 : Int)) && decide ((0 : Int) = (0 : Int)) && decide (y_2.snd.snd.snd.2.2 = (0 : Int)) && decide ((↑y.snd.2.1.length : Int) = (96 : Int)) && decide ((↑(y.snd.2.1.getD (Int.toNat (0 : Int)) (((none, [], 0), List.replicate 32 0) : (Option Addr × List Int × Nat) × List Int)).fst.2.1.length : Int) = (49 : Int)) && decide ((y.snd.2.1.getD (Int.toNat (95 : Int)) (((none, [], 0), List.replicate 32 0) : (Option Addr × List Int × Nat) × List Int)).2 = rt6 (List.replicate (32 : Nat) ((0 : Int), (0 : Int), List.replicate (32 : Nat) (0 : Int))) [])) = false → ∃ (y : Unit), false = true)) (by kernel_rfl) ?_⟩
  simp (maxSteps := 4000000) only [imin, imax, decide_eq_true_eq, decide_eq_false_iff_not, Prod.forall, Prod.exists, exists_eq_left', exists_eq_left, exists_and_left, exists_and_right, exists_eq_right, exists_eq, exists_eq', true_and, and_true, forall_const, exists_const, eq_self, Bool.not_eq_true, Bool.not_eq_eq_eq_not, Bool.not_true, Bool.not_false, Value.slice.injEq, Option.getD_some, imp_self, implies_true, Option.some.injEq, Addr.mk.injEq, true_or, or_true, List.length_cons, List.length_nil, Nat.zero_add, Nat.reduceAdd]
  refine ⟨a64_0, fun _ _ l ee _ hk => ⟨a64_0, a64_0, fun _ _ p o cnt e2 _ _ hp _ _ => ?_⟩⟩
  obtain ⟨-, he, hc⟩ := hk.resolve_right (fun o => o.1 st0)
  obtain ⟨-, he2, rfl, rfl, hcnt⟩ := hp.resolve_right (fun o => o.1 ⟨st0, by decide, by decide⟩)
  have hcnt : cnt = 0 := hcnt
  subst he he2 hcnt
  have hlen : l.length = 96 := by rw [← ctH_length, hc, kn6_length (by decide) (by decide)]; rfl
  have h0 : (l.getD 0 ((none, [], 0), List.replicate 32 0)).1.2.1.length = 49 := by
    have e1 := ctH_get l (k := 0) (by omega)
    have e2 : (kn6 A0 [])[0]? = some (lfE (a48 0 0 (List.replicate 32 0))) := rfl
    rw [hc, e2] at e1
    have := congrArg (fun x => (x.1 : List Int).length) (Option.some.inj e1)
    simp only [lfE] at this
    rw [← this]
    simp [a48, ei8_length]
  have h95 : (l.getD 95 ((none, [], 0), List.replicate 32 0)).2 = rt6 A0 [] := by
    have e1 := ctH_get l (k := 95) (by omega)
    obtain ⟨b, e2⟩ := kn6_top (acc := A0) (ou := []) (by decide) st0
    rw [hc] at e1
    have e2 : (kn6 A0 [])[95]? = _ := e2
    rw [e2] at e1
    exact (congrArg Prod.snd (Option.some.inj e1)).symm
  have c0 := ckA_prove (acc := A0) (ou := []) (i := 3) st0 (by decide) (by decide) (by decide)
  have c0 : ckA (rt6 A0 []) 3 0 0 (List.replicate 32 0) (prfL 5 (accL A0) 3) (rootH 5 (outL [])) 0 = true := c0
  have c1 := ck1_0
  refine ⟨fun _ => by omega, fun _ => by omega, fun _ => ⟨fun _ => c1, fun h => ?_⟩, fun h => ?_⟩
  · rw [c0] at h; cases h
  · have h95 : (l.getD 95 ((none, [], 0), List.replicate 32 0)).2 = rt6 (List.replicate 32 (0, 0, List.replicate 32 0)) [] := h95
    clear c0 c1 hp hk hc
    generalize rt6 (List.replicate 32 (0, 0, List.replicate 32 0)) [] = r at h h95
    rw [show Int.toNat 0 = 0 from rfl, show Int.toNat 95 = 95 from rfl, h0, h95, hlen] at h
    simp at h
noncomputable def con_anch06 : Con Xp.P FMp := ⟨25, sg_anch06, pr_anch06, ps_anch06, vc_ok (La := la_anch06) (Ca := ca_anch06) 3000 (fn := Go.Proofs.Try.f25) (by kernel_rfl) (c := cd_anch06) (by kernel_rfl) (by kernel_rfl) (by kernel_rfl) (by kernel_rfl) (fun ⟨⟩ => vc_anch06 )⟩

end Go.Pw
end
section
/-
  Walks by computing. No condition.
-/
set_option linter.all false
set_option maxRecDepth 100000
set_option maxHeartbeats 1000000
namespace Go.Pw
open Go Go.Px Go.RowKit
attribute [local irreducible] shaF

noncomputable def cd_seqo : Code := (Go.Proofs.Try.f77.body).getD .skip
def sg_seqo : List Arg := [.one (.slr 2), .one (.slr 2)]
def pr_seqo : SgT FMp sg_seqo → List Prop
  | ((A, (a, c)), ((B, (b, e)), ())) => (fun (A : Option Addr) (a : List (Int × Int)) (c : Nat) (B : Option Addr) (b : List (Int × Int)) (e : Nat) => ([a.length ≤ 140737488355328] : List Prop)) A a c B b e
def ps_seqo : SgT FMp sg_seqo → PS FMp
  | ((A, (a, c)), ((B, (b, e)), ())) => (fun (A : Option Addr) (a : List (Int × Int)) (c : Nat) (B : Option Addr) (b : List (Int × Int)) (e : Nat) => (⟨Unit, fun y => [], fun y => one (.bool (decide (a = b))), fun y => [], fun y => []⟩ : PS FMp)) A a c B b e
def la_seqo : SgT FMp sg_seqo → List (Nat × (SS FMp → HA FMp))
  | ((A, (a, c)), ((B, (b, e)), ())) => (fun (A : Option Addr) (a : List (Int × Int)) (c : Nat) (B : Option Addr) (b : List (Int × Int)) (e : Nat) => ([(4, fun S => ⟨Int, fun y => [], fun n y => [(13, some (one (.int .i64 (y))))], fun n y => S.m, fun y => [0 ≤ y, y ≤ a.length, a.length = b.length, a.take y.toNat = b.take y.toNat], fun y => (a.length - y).toNat⟩)] : List (Nat × (SS FMp → HA FMp)))) A a c B b e
def ca_seqo : SgT FMp sg_seqo → List (Nat × (SS FMp → HA FMp))
  | ((A, (a, c)), ((B, (b, e)), ())) => (fun (A : Option Addr) (a : List (Int × Int)) (c : Nat) (B : Option Addr) (b : List (Int × Int)) (e : Nat) => ([] : List (Nat × (SS FMp → HA FMp)))) A a c B b e
theorem vc_seqo (A : Option Addr) (a : List (Int × Int)) (c : Nat) (B : Option Addr) (b : List (Int × Int)) (e : Nat) : Vc (vc (FM := FMp) Xp 26 [] (la_seqo ((A, (a, c)), ((B, (b, e)), ()))) (ca_seqo ((A, (a, c)), ((B, (b, e)), ()))) [] [] [.tmp 4] sg_seqo pr_seqo ps_seqo cd_seqo 300 ((A, (a, c)), ((B, (b, e)), ()))) := by
  refine ⟨Eq.mpr (β := (∀ (a_1 : Int × Int), a_1 ∈ a → True) → (∀ (a : Int × Int), a ∈ b → True) → a.length ≤ (140737488355328 : Nat) → ((!decide ((↑a.length : Int) = (↑b.length : Int))) = true → ∃ (y : Unit), false = decide (a = b)) ∧ ((!decide ((↑a.length : Int) = (↑b.length : Int))) = false → (∃ (y : Int), (0 : Int) = y ∧ (0 : Int) ≤ y ∧ y ≤ (↑a.length : Int) ∧ a.length = b.length ∧ List.take y.toNat a = List.take y.toNat b) ∧ ∀ (y : Int), (0 : Int) ≤ y → y ≤ (↑a.length : Int) → a.length = b.length → List.take y.toNat a = List.take y.toNat b → (decide (y < (↑a.length : Int)) = true → (0 : Int) ≤ y ∧ y < (↑a.length : Int) ∧ y.toNat < a.length ∧ y.toNat < a.length ∧ (0 : Int) ≤ y ∧ y < (↑b.length : Int) ∧ y.toNat < b.length ∧ y.toNat < b.length ∧ ((!(decide ((a.getD y.toNat ((0, 0) : Int × Int)).1 = (b.getD y.toNat ((0, 0) : Int × Int)).1) && decide ((a.getD y.toNat ((0, 0) : Int × Int)).2 = (b.getD y.toNat ((0, 0) : Int × Int)).2))) = true → ∃ (y : Unit), false = decide (a = b)) ∧ ((!(decide ((a.getD y.toNat ((0, 0) : Int × Int)).1 = (b.getD y.toNat ((0, 0) : Int × Int)).1) && decide ((a.getD y.toNat ((0, 0) : Int × Int)).2 = (b.getD y.toNat ((0, 0) : Int × Int)).2))) = false → (-9223372036854775808 : Int) ≤ y + (1 : Int) ∧ y + (1 : Int) ≤ (9223372036854775807 : Int) ∧ ∃ (y_1 : Int), y + (1 : Int) = y_1 ∧ (0 : Int) ≤ y_1 ∧ y_1 ≤ (↑a.length : Int) ∧ a.length = b.length ∧ List.take y_1.toNat a = List.take y_1.toNat b ∧ ((↑a.length : Int) - y_1).toNat < ((↑a.length : Int) - y).toNat)) ∧ (decide (y < (↑a.length : Int)) = false → ∃ (y : Unit), true = decide (a = b)))) (by kernel_rfl) ?_⟩
  simp only [imin, imax, decide_eq_true_eq, decide_eq_false_iff_not, Prod.forall, Prod.exists, exists_eq_left', exists_eq_left, exists_and_left, exists_and_right, exists_eq_right, exists_eq, exists_eq', true_and, and_true, forall_const, exists_const, eq_self, Bool.not_eq_true, Bool.not_eq_eq_eq_not, Bool.not_true, Bool.not_false, Value.slice.injEq, Option.getD_some, imp_self, implies_true, Option.some.injEq, Addr.mk.injEq, true_or, or_true, List.length_cons, List.length_nil, Nat.zero_add, Nat.reduceAdd]
  intro hn
  refine ⟨fun h => ?_, fun h => ⟨⟨by omega, by omega, by omega, rfl⟩, fun k h0 h1 h2 h3 => ⟨fun h4 => ?_, fun h4 => ?_⟩⟩⟩
  · symm
    simp only [decide_eq_false_iff_not]
    intro e
    rw [e] at h
    exact h rfl
  · have ea : a[k.toNat]? = some (a.getD k.toNat (0, 0)) := by rw [getD_lt (by omega), List.getElem?_eq_getElem (by omega)]
    have eb : b[k.toNat]? = some (b.getD k.toNat (0, 0)) := by rw [getD_lt (by omega), List.getElem?_eq_getElem (by omega)]
    refine ⟨h0, h4, by omega, by omega, h0, by omega, by omega, by omega, fun h5 => ?_, fun h5 => ⟨by omega, by omega, by omega, by omega, h2, ?_, by omega⟩⟩
    · symm
      simp only [decide_eq_false_iff_not]
      intro e
      rw [e] at h5
      simp at h5
    · simp only [Bool.and_eq_true, decide_eq_true_eq] at h5
      rw [show (k + 1).toNat = k.toNat + 1 by omega, List.take_add_one, List.take_add_one, h3, ea, eb, Prod.ext h5.1 h5.2]
  · symm
    simp only [decide_eq_true_eq]
    rw [List.take_of_length_le (by omega), List.take_of_length_le (by omega)] at h3
    exact h3
noncomputable def con_seqo : Con Xp.P FMp := ⟨77, sg_seqo, pr_seqo, ps_seqo, vc_ok (La := la_seqo) (Ca := ca_seqo) 300 (fn := Go.Proofs.Try.f77) (by kernel_rfl) (c := cd_seqo) (by kernel_rfl) (by kernel_rfl) (by kernel_rfl) (by kernel_rfl) (fun ⟨⟨A, ⟨a, c⟩⟩, ⟨⟨B, ⟨b, e⟩⟩, ⟨⟩⟩⟩ => vc_seqo A a c B b e)⟩
noncomputable def cd_ssame6 : Code := (Go.Proofs.Try.f50.body).getD .skip
def sg_ssame6 : List Arg := [.ag [.rcs 1 32, .slr 2], .ag [.rcs 1 32, .slr 2]]
def pr_ssame6 : SgT FMp sg_ssame6 → List Prop
  | ((acc, ((A, (ou, c)), ())), ((zcc, ((B, (zou, e)), ())), ())) => (fun (acc : List (Int × Int × List Int)) (A : Option Addr) (ou : List (Int × Int)) (c : Nat) (zcc : List (Int × Int × List Int)) (B : Option Addr) (zou : List (Int × Int)) (e : Nat) => ([ou.length ≤ 140737488355328] : List Prop)) acc A ou c zcc B zou e
def ps_ssame6 : SgT FMp sg_ssame6 → PS FMp
  | ((acc, ((A, (ou, c)), ())), ((zcc, ((B, (zou, e)), ())), ())) => (fun (acc : List (Int × Int × List Int)) (A : Option Addr) (ou : List (Int × Int)) (c : Nat) (zcc : List (Int × Int × List Int)) (B : Option Addr) (zou : List (Int × Int)) (e : Nat) => (⟨Unit, fun y => [], fun y => one (.bool ((decide (acc = zcc) && decide (ou = zou)))), fun y => [], fun y => []⟩ : PS FMp)) acc A ou c zcc B zou e
def la_ssame6 : SgT FMp sg_ssame6 → List (Nat × (SS FMp → HA FMp))
  | ((acc, ((A, (ou, c)), ())), ((zcc, ((B, (zou, e)), ())), ())) => (fun (acc : List (Int × Int × List Int)) (A : Option Addr) (ou : List (Int × Int)) (c : Nat) (zcc : List (Int × Int × List Int)) (B : Option Addr) (zou : List (Int × Int)) (e : Nat) => ([] : List (Nat × (SS FMp → HA FMp)))) acc A ou c zcc B zou e
def ca_ssame6 : SgT FMp sg_ssame6 → List (Nat × (SS FMp → HA FMp))
  | ((acc, ((A, (ou, c)), ())), ((zcc, ((B, (zou, e)), ())), ())) => (fun (acc : List (Int × Int × List Int)) (A : Option Addr) (ou : List (Int × Int)) (c : Nat) (zcc : List (Int × Int × List Int)) (B : Option Addr) (zou : List (Int × Int)) (e : Nat) => ([] : List (Nat × (SS FMp → HA FMp)))) acc A ou c zcc B zou e
theorem vc_ssame6 (acc : List (Int × Int × List Int)) (A : Option Addr) (ou : List (Int × Int)) (c : Nat) (zcc : List (Int × Int × List Int)) (B : Option Addr) (zou : List (Int × Int)) (e : Nat) : Vc (vc (FM := FMp) Xp 17 [con_seqo] (la_ssame6 ((acc, ((A, (ou, c)), ())), ((zcc, ((B, (zou, e)), ())), ()))) (ca_ssame6 ((acc, ((A, (ou, c)), ())), ((zcc, ((B, (zou, e)), ())), ()))) [] [] [.tmp 4] sg_ssame6 pr_ssame6 ps_ssame6 cd_ssame6 300 ((acc, ((A, (ou, c)), ())), ((zcc, ((B, (zou, e)), ())), ()))) := by
  refine ⟨Eq.mpr (β := acc.length = (32 : Nat) → (∀ (a : Int × Int × List Int), List.Mem a acc → a.2.2.length = (32 : Nat)) → (∀ (a : Int × Int), a ∈ ou → True) → zcc.length = (32 : Nat) → (∀ (a : Int × Int × List Int), List.Mem a zcc → a.2.2.length = (32 : Nat)) → (∀ (a : Int × Int), a ∈ zou → True) → ou.length ≤ (140737488355328 : Nat) → ∀ (b b : Nat), (decide (acc = zcc) = true → ou.length = ou.length ∧ zou.length = zou.length ∧ ou.length ≤ (140737488355328 : Nat) ∧ ∀ (y : Unit), ∃ (y : Unit), decide (ou = zou) = (decide (acc = zcc) && decide (ou = zou))) ∧ (decide (acc = zcc) = false → ∃ (y : Unit), false = (decide (acc = zcc) && decide (ou = zou)))) (by kernel_rfl) ?_⟩
  simp only [imin, imax, decide_eq_true_eq, decide_eq_false_iff_not, Prod.forall, Prod.exists, exists_eq_left', exists_eq_left, exists_and_left, exists_and_right, exists_eq_right, exists_eq, exists_eq', true_and, and_true, forall_const, exists_const, eq_self, Bool.not_eq_true, Bool.not_eq_eq_eq_not, Bool.not_true, Bool.not_false, Value.slice.injEq, Option.getD_some, imp_self, implies_true, Option.some.injEq, Addr.mk.injEq, true_or, or_true, List.length_cons, List.length_nil, Nat.zero_add, Nat.reduceAdd]
  intro _ _ _ _ hn
  refine ⟨fun h => ⟨hn, by rw [decide_eq_true h, Bool.true_and]⟩, fun h => by rw [decide_eq_false h, Bool.false_and]⟩
noncomputable def con_ssame6 : Con Xp.P FMp := ⟨50, sg_ssame6, pr_ssame6, ps_ssame6, vc_ok (La := la_ssame6) (Ca := ca_ssame6) 300 (fn := Go.Proofs.Try.f50) (by kernel_rfl) (c := cd_ssame6) (by kernel_rfl) (by kernel_rfl) (by kernel_rfl) (by kernel_rfl) (fun ⟨⟨acc, ⟨⟨A, ⟨ou, c⟩⟩, ⟨⟩⟩⟩, ⟨⟨zcc, ⟨⟨B, ⟨zou, e⟩⟩, ⟨⟩⟩⟩, ⟨⟩⟩⟩ => vc_ssame6 acc A ou c zcc B zou e)⟩
noncomputable def cd_rsame6 : Code := (Go.Proofs.Try.f39.body).getD .skip
def sg_rsame6 : List Arg := [.ag [.rcs 1 32, .slr 2], .ag [.rcs 1 32, .slr 2]]
def pr_rsame6 : SgT FMp sg_rsame6 → List Prop
  | ((acc, ((A, (ou, c)), ())), ((zcc, ((B, (zou, e)), ())), ())) => (fun (acc : List (Int × Int × List Int)) (A : Option Addr) (ou : List (Int × Int)) (c : Nat) (zcc : List (Int × Int × List Int)) (B : Option Addr) (zou : List (Int × Int)) (e : Nat) => ([ou.length ≤ 140737488355328] : List Prop)) acc A ou c zcc B zou e
def ps_rsame6 : SgT FMp sg_rsame6 → PS FMp
  | ((acc, ((A, (ou, c)), ())), ((zcc, ((B, (zou, e)), ())), ())) => (fun (acc : List (Int × Int × List Int)) (A : Option Addr) (ou : List (Int × Int)) (c : Nat) (zcc : List (Int × Int × List Int)) (B : Option Addr) (zou : List (Int × Int)) (e : Nat) => (⟨Unit, fun y => [], fun y => one (.bool ((decide (acc = zcc) && decide (ou = zou)))), fun y => [], fun y => []⟩ : PS FMp)) acc A ou c zcc B zou e
def la_rsame6 : SgT FMp sg_rsame6 → List (Nat × (SS FMp → HA FMp))
  | ((acc, ((A, (ou, c)), ())), ((zcc, ((B, (zou, e)), ())), ())) => (fun (acc : List (Int × Int × List Int)) (A : Option Addr) (ou : List (Int × Int)) (c : Nat) (zcc : List (Int × Int × List Int)) (B : Option Addr) (zou : List (Int × Int)) (e : Nat) => ([(4, fun S => ⟨Int, fun y => [], fun n y => [(5, some (one (.int .i64 (y))))], fun n y => S.m, fun y => [0 ≤ y, y ≤ ou.length, acc = zcc, ou.length = zou.length, ou.take y.toNat = zou.take y.toNat], fun y => (ou.length - y).toNat⟩)] : List (Nat × (SS FMp → HA FMp)))) acc A ou c zcc B zou e
def ca_rsame6 : SgT FMp sg_rsame6 → List (Nat × (SS FMp → HA FMp))
  | ((acc, ((A, (ou, c)), ())), ((zcc, ((B, (zou, e)), ())), ())) => (fun (acc : List (Int × Int × List Int)) (A : Option Addr) (ou : List (Int × Int)) (c : Nat) (zcc : List (Int × Int × List Int)) (B : Option Addr) (zou : List (Int × Int)) (e : Nat) => ([] : List (Nat × (SS FMp → HA FMp)))) acc A ou c zcc B zou e
theorem vc_rsame6 (acc : List (Int × Int × List Int)) (A : Option Addr) (ou : List (Int × Int)) (c : Nat) (zcc : List (Int × Int × List Int)) (B : Option Addr) (zou : List (Int × Int)) (e : Nat) : Vc (vc (FM := FMp) Xp 38 [] (la_rsame6 ((acc, ((A, (ou, c)), ())), ((zcc, ((B, (zou, e)), ())), ()))) (ca_rsame6 ((acc, ((A, (ou, c)), ())), ((zcc, ((B, (zou, e)), ())), ()))) [] [] [.tmp 4] sg_rsame6 pr_rsame6 ps_rsame6 cd_rsame6 300 ((acc, ((A, (ou, c)), ())), ((zcc, ((B, (zou, e)), ())), ()))) := by
  refine ⟨Eq.mpr (β := acc.length = (32 : Nat) → (∀ (a : Int × Int × List Int), List.Mem a acc → a.2.2.length = (32 : Nat)) → (∀ (a : Int × Int), a ∈ ou → True) → zcc.length = (32 : Nat) → (∀ (a : Int × Int × List Int), List.Mem a zcc → a.2.2.length = (32 : Nat)) → (∀ (a : Int × Int), a ∈ zou → True) → ou.length ≤ (140737488355328 : Nat) → ∀ (b b : Nat), ((!decide (acc = zcc) || !decide ((↑ou.length : Int) = (↑zou.length : Int))) = true → ∃ (y : Unit), false = (decide (acc = zcc) && decide (ou = zou))) ∧ ((!decide (acc = zcc) || !decide ((↑ou.length : Int) = (↑zou.length : Int))) = false → (∃ (y : Int), (0 : Int) = y ∧ zcc = zcc ∧ (32 : Nat) = (32 : Nat) ∧ zou.length = zou.length ∧ e = e ∧ acc = acc ∧ (32 : Nat) = (32 : Nat) ∧ ou.length = ou.length ∧ c = c ∧ (0 : Int) ≤ y ∧ y ≤ (↑ou.length : Int) ∧ acc = zcc ∧ ou.length = zou.length ∧ List.take y.toNat ou = List.take y.toNat zou) ∧ ∀ (y : Int), zcc.length = (32 : Nat) → (∀ (a : Int × Int × List Int), a ∈ zcc → a.2.2.length = (32 : Nat)) → acc.length = (32 : Nat) → (∀ (a : Int × Int × List Int), a ∈ acc → a.2.2.length = (32 : Nat)) → (0 : Int) ≤ y → y ≤ (↑ou.length : Int) → acc = zcc → ou.length = zou.length → List.take y.toNat ou = List.take y.toNat zou → (decide (y < (↑ou.length : Int)) = true → (0 : Int) ≤ y ∧ y < (↑ou.length : Int) ∧ y.toNat < ou.length ∧ y.toNat < ou.length ∧ (0 : Int) ≤ y ∧ y < (↑zou.length : Int) ∧ y.toNat < zou.length ∧ y.toNat < zou.length ∧ ((!(decide ((ou.getD y.toNat ((0, 0) : Int × Int)).1 = (zou.getD y.toNat ((0, 0) : Int × Int)).1) && decide ((ou.getD y.toNat ((0, 0) : Int × Int)).2 = (zou.getD y.toNat ((0, 0) : Int × Int)).2))) = true → ∃ (y : Unit), false = (decide (acc = zcc) && decide (ou = zou))) ∧ ((!(decide ((ou.getD y.toNat ((0, 0) : Int × Int)).1 = (zou.getD y.toNat ((0, 0) : Int × Int)).1) && decide ((ou.getD y.toNat ((0, 0) : Int × Int)).2 = (zou.getD y.toNat ((0, 0) : Int × Int)).2))) = false → (-9223372036854775808 : Int) ≤ y + (1 : Int) ∧ y + (1 : Int) ≤ (9223372036854775807 : Int) ∧ ∃ (y_1 : Int), y + (1 : Int) = y_1 ∧ zcc = zcc ∧ (32 : Nat) = (32 : Nat) ∧ zou.length = zou.length ∧ e = e ∧ acc = acc ∧ (32 : Nat) = (32 : Nat) ∧ ou.length = ou.length ∧ c = c ∧ (0 : Int) ≤ y_1 ∧ y_1 ≤ (↑ou.length : Int) ∧ acc = zcc ∧ ou.length = zou.length ∧ List.take y_1.toNat ou = List.take y_1.toNat zou ∧ ((↑ou.length : Int) - y_1).toNat < ((↑ou.length : Int) - y).toNat)) ∧ (decide (y < (↑ou.length : Int)) = false → ∃ (y : Unit), true = (decide (acc = zcc) && decide (ou = zou))))) (by kernel_rfl) ?_⟩
  simp only [imin, imax, decide_eq_true_eq, decide_eq_false_iff_not, Prod.forall, Prod.exists, exists_eq_left', exists_eq_left, exists_and_left, exists_and_right, exists_eq_right, exists_eq, exists_eq', true_and, and_true, forall_const, exists_const, eq_self, Bool.not_eq_true, Bool.not_eq_eq_eq_not, Bool.not_true, Bool.not_false, Value.slice.injEq, Option.getD_some, imp_self, implies_true, Option.some.injEq, Addr.mk.injEq, true_or, or_true, List.length_cons, List.length_nil, Nat.zero_add, Nat.reduceAdd]
  intro _ _ _ _ hn
  refine ⟨fun h => ?_, fun h => ?_⟩
  · symm
    rw [Bool.and_eq_false_iff]
    by_cases e : acc = zcc
    · right
      simp only [decide_eq_false_iff_not]
      intro e2
      rw [e2, decide_eq_true e] at h
      simp at h
    · left; exact decide_eq_false e
  simp only [Bool.or_eq_false_iff, Bool.not_eq_false', decide_eq_true_eq] at h
  obtain ⟨ea, el⟩ := h
  rw [decide_eq_true ea, Bool.true_and]
  refine ⟨⟨by omega, by omega, ea, by omega, rfl⟩, fun k _ _ _ _ h0 h1 _ h2 h3 => ⟨fun h4 => ?_, fun h4 => ?_⟩⟩
  · have e1 : ou[k.toNat]? = some (ou.getD k.toNat (0, 0)) := by rw [getD_lt (by omega), List.getElem?_eq_getElem (by omega)]
    have e2 : zou[k.toNat]? = some (zou.getD k.toNat (0, 0)) := by rw [getD_lt (by omega), List.getElem?_eq_getElem (by omega)]
    refine ⟨h0, h4, by omega, by omega, h0, by omega, by omega, by omega, fun h5 => ?_, fun h5 => ⟨by omega, by omega, by omega, by omega, ea, h2, ?_, by omega⟩⟩
    · symm
      simp only [decide_eq_false_iff_not]
      intro e
      rw [e] at h5
      simp at h5
    · simp only [Bool.and_eq_true, decide_eq_true_eq] at h5
      rw [show (k + 1).toNat = k.toNat + 1 by omega, List.take_add_one, List.take_add_one, h3, e1, e2, Prod.ext h5.1 h5.2]
  · symm
    simp only [decide_eq_true_eq]
    rw [List.take_of_length_le (by omega), List.take_of_length_le (by omega)] at h3
    exact h3
noncomputable def con_rsame6 : Con Xp.P FMp := ⟨39, sg_rsame6, pr_rsame6, ps_rsame6, vc_ok (La := la_rsame6) (Ca := ca_rsame6) 300 (fn := Go.Proofs.Try.f39) (by kernel_rfl) (c := cd_rsame6) (by kernel_rfl) (by kernel_rfl) (by kernel_rfl) (by kernel_rfl) (fun ⟨⟨acc, ⟨⟨A, ⟨ou, c⟩⟩, ⟨⟩⟩⟩, ⟨⟨zcc, ⟨⟨B, ⟨zou, e⟩⟩, ⟨⟩⟩⟩, ⟨⟩⟩⟩ => vc_rsame6 acc A ou c zcc B zou e)⟩

end Go.Pw
end
section
/-
  Walks by computing. No condition.
-/
set_option linter.all false
set_option maxRecDepth 100000
set_option maxHeartbeats 1000000
namespace Go.Pw
open Go Go.Px Go.RowKit
attribute [local irreducible] shaF


theorem paRes_unique {acc : List (Int × Int × List Int)} {ou : List (Int × Int)} {i : Int} {p q : List (List Int)} {o u : List Int} {c d e g : Int} (h : paRes acc ou i p o c e) (k : paRes acc ou i q u d g) : p = q ∧ o = u ∧ c = d ∧ e = g := by
  rcases h with ⟨h0, rfl, rfl, rfl, rfl⟩ | ⟨h0, rfl, rfl, rfl, rfl⟩ <;> rcases k with ⟨k0, rfl, rfl, rfl, rfl⟩ | ⟨k0, rfl, rfl, rfl, rfl⟩
  · exact ⟨rfl, rfl, rfl, rfl⟩
  · exact (k0 h0).elim
  · exact (h0 k0).elim
  · exact ⟨rfl, rfl, rfl, rfl⟩
theorem poRes_unique {acc : List (Int × Int × List Int)} {ou : List (Int × Int)} {i : Int} {p q : List (List Int)} {o u : List Int} {c d e g : Int} (h : poRes acc ou i p o c e) (k : poRes acc ou i q u d g) : p = q ∧ o = u ∧ c = d ∧ e = g := by
  rcases h with ⟨h0, rfl, rfl, rfl, rfl⟩ | ⟨h0, rfl, rfl, rfl, rfl⟩ <;> rcases k with ⟨k0, rfl, rfl, rfl, rfl⟩ | ⟨k0, rfl, rfl, rfl, rfl⟩
  · exact ⟨rfl, rfl, rfl, rfl⟩
  · exact (k0 h0).elim
  · exact (h0 k0).elim
  · exact ⟨rfl, rfl, rfl, rfl⟩
theorem prfL_len (ls : List (List Int)) (i : Int) : (prfL 5 ls i).length ≤ 5 := by
  unfold prfL
  split
  · rw [prfN_length]; exact Nat.le_refl _
  · simp
theorem paRes_len {acc : List (Int × Int × List Int)} {ou : List (Int × Int)} {i : Int} {p : List (List Int)} {o : List Int} {c e : Int} (h : paRes acc ou i p o c e) : p.length ≤ 5 := by
  rcases h with ⟨-, -, rfl, -⟩ | ⟨-, -, rfl, -⟩
  · exact prfL_len _ _
  · simp
theorem poRes_len {acc : List (Int × Int × List Int)} {ou : List (Int × Int)} {i : Int} {p : List (List Int)} {o : List Int} {c e : Int} (h : poRes acc ou i p o c e) : p.length ≤ 5 := by
  rcases h with ⟨-, -, rfl, -⟩ | ⟨-, -, rfl, -⟩
  · exact prfL_len _ _
  · simp
noncomputable def cd_lawSRoots : Code := (Go.Proofs.Try.f10.body).getD .skip
def sg_lawSRoots : List Arg := [.ag [.rcs 1 32, .slr 2], .ag [.rcs 1 32, .slr 2], .one (.int .i64)]
def pr_lawSRoots : SgT FMp sg_lawSRoots → List Prop
  | ((acc, ((A, (ou, c)), ())), ((zcc, ((B, (zou, e)), ())), (i, ()))) => (fun (acc : List (Int × Int × List Int)) (A : Option Addr) (ou : List (Int × Int)) (c : Nat) (zcc : List (Int × Int × List Int)) (B : Option Addr) (zou : List (Int × Int)) (e : Nat) (i : Int) => ([a64 acc, ∀ a ∈ acc, rg a.2.2, ou.length ≤ 140737488355328] : List Prop)) acc A ou c zcc B zou e i
def ps_lawSRoots : SgT FMp sg_lawSRoots → PS FMp
  | ((acc, ((A, (ou, c)), ())), ((zcc, ((B, (zou, e)), ())), (i, ()))) => (fun (acc : List (Int × Int × List Int)) (A : Option Addr) (ou : List (Int × Int)) (c : Nat) (zcc : List (Int × Int × List Int)) (B : Option Addr) (zou : List (Int × Int)) (e : Nat) (i : Int) => (⟨Unit, fun y => [], fun y => one (.bool (true)), fun y => [], fun y => []⟩ : PS FMp)) acc A ou c zcc B zou e i
def la_lawSRoots : SgT FMp sg_lawSRoots → List (Nat × (SS FMp → HA FMp))
  | ((acc, ((A, (ou, c)), ())), ((zcc, ((B, (zou, e)), ())), (i, ()))) => (fun (acc : List (Int × Int × List Int)) (A : Option Addr) (ou : List (Int × Int)) (c : Nat) (zcc : List (Int × Int × List Int)) (B : Option Addr) (zou : List (Int × Int)) (e : Nat) (i : Int) => ([] : List (Nat × (SS FMp → HA FMp)))) acc A ou c zcc B zou e i
def ca_lawSRoots : SgT FMp sg_lawSRoots → List (Nat × (SS FMp → HA FMp))
  | ((acc, ((A, (ou, c)), ())), ((zcc, ((B, (zou, e)), ())), (i, ()))) => (fun (acc : List (Int × Int × List Int)) (A : Option Addr) (ou : List (Int × Int)) (c : Nat) (zcc : List (Int × Int × List Int)) (B : Option Addr) (zou : List (Int × Int)) (e : Nat) (i : Int) => ([] : List (Nat × (SS FMp → HA FMp)))) acc A ou c zcc B zou e i
theorem vc_lawSRoots (acc : List (Int × Int × List Int)) (A : Option Addr) (ou : List (Int × Int)) (c : Nat) (zcc : List (Int × Int × List Int)) (B : Option Addr) (zou : List (Int × Int)) (e : Nat) (i : Int) : Vc (vc (FM := FMp) Xp 154 [con_stotb, con_rtot6, con_sroot6, con_rroot6, con_smayb, con_rmay6, con_ssame6, con_rsame6, con_sprove, con_rprove, con_sproveo, con_rproveo, con_rsame, con_anch06] (la_lawSRoots ((acc, ((A, (ou, c)), ())), ((zcc, ((B, (zou, e)), ())), (i, ())))) (ca_lawSRoots ((acc, ((A, (ou, c)), ())), ((zcc, ((B, (zou, e)), ())), (i, ())))) [] [] [.tmp 6] sg_lawSRoots pr_lawSRoots ps_lawSRoots cd_lawSRoots 3000 ((acc, ((A, (ou, c)), ())), ((zcc, ((B, (zou, e)), ())), (i, ())))) := by
  refine ⟨Eq.mpr (β := acc.length = (32 : Nat) → (∀ (a : Int × Int × List Int), List.Mem a acc → a.2.2.length = (32 : Nat)) → (∀ (a : Int × Int), a ∈ ou → True) → zcc.length = (32 : Nat) → (∀ (a : Int × Int × List Int), List.Mem a zcc → a.2.2.length = (32 : Nat)) → (∀ (a : Int × Int), a ∈ zou → True) → a64 acc → (∀ (a : Int × Int × List Int), a ∈ acc → rg a.2.2) → ou.length ≤ (140737488355328 : Nat) → ∀ (b b : Nat), ou.length = ou.length ∧ a64 acc ∧ ∀ (y : Unit), ou.length = ou.length ∧ a64 acc ∧ ∀ (y : Unit), ou.length = ou.length ∧ a64 acc ∧ ∀ (y : Unit), (rt6 acc ou).length = (32 : Nat) → (rt6 acc ou).length = (32 : Nat) → ∀ (b : Nat), ou.length = ou.length ∧ a64 acc ∧ (∀ (a : Int × Int × List Int), a ∈ acc → rg a.2.2) ∧ ∀ (y : Unit), (rt6 acc ou).length = (32 : Nat) → (rt6 acc ou).length = (32 : Nat) → ∀ (b : Nat), ou.length = ou.length ∧ a64 acc ∧ ∀ (y : Unit), ou.length = ou.length ∧ a64 acc ∧ ∀ (y : Unit), ((!(decide (stE acc = (0 : Int)) && decide (ou.length ≤ (32 : Nat))) == (decide (stE acc = (0 : Int)) && decide (ou.length ≤ (32 : Nat)))) = true → ∃ (y : Unit), false = true) ∧ ((!(decide (stE acc = (0 : Int)) && decide (ou.length ≤ (32 : Nat))) == (decide (stE acc = (0 : Int)) && decide (ou.length ≤ (32 : Nat)))) = false → ou.length = ou.length ∧ zou.length = zou.length ∧ ou.length ≤ (140737488355328 : Nat) ∧ ∀ (y : Unit), ou.length = ou.length ∧ zou.length = zou.length ∧ ou.length ≤ (140737488355328 : Nat) ∧ ∀ (y : Unit), ((!(decide (acc = zcc) && decide (ou = zou)) == (decide (acc = zcc) && decide (ou = zou)) || !decide (stV acc = stV acc) || !decide (stE acc = stE acc) || !decide (rt6 acc ou = rt6 acc ou) || !decide (rtE6 acc ou = rtE6 acc ou)) = true → ∃ (y : Unit), false = true) ∧ ((!(decide (acc = zcc) && decide (ou = zou)) == (decide (acc = zcc) && decide (ou = zou)) || !decide (stV acc = stV acc) || !decide (stE acc = stE acc) || !decide (rt6 acc ou = rt6 acc ou) || !decide (rtE6 acc ou = rtE6 acc ou)) = false → ou.length = ou.length ∧ a64 acc ∧ ∀ (y : Option Addr × Nat × List (List Int) × List Int × Int × Int), y.snd.snd.2.1.length = (32 : Nat) → y.snd.2.1.length = y.snd.2.1.length → (∀ (a : List Int), a ∈ y.snd.2.1 → a.length = (32 : Nat)) → paRes acc ou i y.snd.2.1 y.snd.snd.2.1 y.snd.snd.snd.2.1 y.snd.snd.snd.2.2 → y.snd.snd.2.1.length = (32 : Nat) → (∀ (a : List Int), a ∈ y.snd.2.1 → a.length = (32 : Nat)) → ∀ (b : Nat), ou.length = ou.length ∧ a64 acc ∧ (∀ (a : Int × Int × List Int), a ∈ acc → rg a.2.2) ∧ ∀ (y_1 : Option Addr × Nat × List (List Int) × List Int × Int × Int), y_1.snd.snd.2.1.length = (32 : Nat) → y_1.snd.2.1.length = y_1.snd.2.1.length → (∀ (a : List Int), a ∈ y_1.snd.2.1 → a.length = (32 : Nat)) → paRes acc ou i y_1.snd.2.1 y_1.snd.snd.2.1 y_1.snd.snd.snd.2.1 y_1.snd.snd.snd.2.2 → y_1.snd.snd.2.1.length = (32 : Nat) → (∀ (a : List Int), a ∈ y_1.snd.2.1 → a.length = (32 : Nat)) → ∀ (b : Nat), ou.length = ou.length ∧ a64 acc ∧ ∀ (y_2 : Option Addr × Nat × List (List Int) × List Int × Int × Int), y_2.snd.snd.2.1.length = (32 : Nat) → y_2.snd.2.1.length = y_2.snd.2.1.length → (∀ (a : List Int), a ∈ y_2.snd.2.1 → a.length = (32 : Nat)) → poRes acc ou i y_2.snd.2.1 y_2.snd.snd.2.1 y_2.snd.snd.snd.2.1 y_2.snd.snd.snd.2.2 → y_2.snd.snd.2.1.length = (32 : Nat) → (∀ (a : List Int), a ∈ y_2.snd.2.1 → a.length = (32 : Nat)) → ∀ (b : Nat), ou.length = ou.length ∧ a64 acc ∧ (∀ (a : Int × Int × List Int), a ∈ acc → rg a.2.2) ∧ ∀ (y_3 : Option Addr × Nat × List (List Int) × List Int × Int × Int), y_3.snd.snd.2.1.length = (32 : Nat) → y_3.snd.2.1.length = y_3.snd.2.1.length → (∀ (a : List Int), a ∈ y_3.snd.2.1 → a.length = (32 : Nat)) → poRes acc ou i y_3.snd.2.1 y_3.snd.snd.2.1 y_3.snd.snd.snd.2.1 y_3.snd.snd.snd.2.2 → y_3.snd.snd.2.1.length = (32 : Nat) → (∀ (a : List Int), a ∈ y_3.snd.2.1 → a.length = (32 : Nat)) → ∀ (b : Nat), y.snd.2.1.length = y.snd.2.1.length ∧ y_1.snd.2.1.length = y_1.snd.2.1.length ∧ y.snd.2.1.length ≤ (140737488355328 : Nat) ∧ ∀ (y_4 : Unit), ((decide (y.snd.2.1 = y_1.snd.2.1) && decide (y.snd.snd.2.1 = y_1.snd.snd.2.1) && decide (y.snd.snd.snd.2.1 = y_1.snd.snd.snd.2.1) && decide (y.snd.snd.snd.2.2 = y_1.snd.snd.snd.2.2)) = true → y_2.snd.2.1.length = y_2.snd.2.1.length ∧ y_3.snd.2.1.length = y_3.snd.2.1.length ∧ y_2.snd.2.1.length ≤ (140737488355328 : Nat) ∧ ∀ (y : Unit), ((decide (y_2.snd.2.1 = y_3.snd.2.1) && decide (y_2.snd.snd.2.1 = y_3.snd.snd.2.1) && decide (y_2.snd.snd.snd.2.1 = y_3.snd.snd.snd.2.1) && decide (y_2.snd.snd.snd.2.2 = y_3.snd.snd.snd.2.2)) = true → ∀ (y : Unit), ∃ (y : Unit), true = true) ∧ ((decide (y_2.snd.2.1 = y_3.snd.2.1) && decide (y_2.snd.snd.2.1 = y_3.snd.snd.2.1) && decide (y_2.snd.snd.snd.2.1 = y_3.snd.snd.snd.2.1) && decide (y_2.snd.snd.snd.2.2 = y_3.snd.snd.snd.2.2)) = false → ∃ (y : Unit), false = true)) ∧ ((decide (y.snd.2.1 = y_1.snd.2.1) && decide (y.snd.snd.2.1 = y_1.snd.snd.2.1) && decide (y.snd.snd.snd.2.1 = y_1.snd.snd.snd.2.1) && decide (y.snd.snd.snd.2.2 = y_1.snd.snd.snd.2.2)) = false → ∃ (y : Unit), false = true)))) (by kernel_rfl) ?_⟩
  simp (maxSteps := 4000000) only [imin, imax, decide_eq_true_eq, decide_eq_false_iff_not, Prod.forall, Prod.exists, exists_eq_left', exists_eq_left, exists_and_left, exists_and_right, exists_eq_right, exists_eq, exists_eq', true_and, and_true, forall_const, exists_const, eq_self, Bool.not_eq_true, Bool.not_eq_eq_eq_not, Bool.not_true, Bool.not_false, Value.slice.injEq, Option.getD_some, imp_self, implies_true, Option.some.injEq, Addr.mk.injEq, true_or, or_true, List.length_cons, List.length_nil, Nat.zero_add, Nat.reduceAdd]
  intro _ _ _ _ ha hg hn
  refine ⟨ha, ha, ha, fun _ _ => ⟨ha, hg, fun _ _ => ⟨ha, ha, fun h => by simp at h, fun _ => ⟨hn, hn, fun h => by simp at h, fun _ => ⟨ha, fun _ _ p o cnt ee _ _ hp _ _ => ⟨ha, hg, fun _ _ p2 o2 cnt2 ee2 _ _ hp2 _ _ => ⟨ha, fun _ _ q u d g _ _ hq _ _ => ⟨ha, hg, fun _ _ q2 u2 d2 g2 _ _ hq2 _ _ => ?_⟩⟩⟩⟩⟩⟩⟩⟩
  obtain ⟨rfl, rfl, rfl, rfl⟩ := paRes_unique hp hp2
  obtain ⟨rfl, rfl, rfl, rfl⟩ := poRes_unique hq hq2
  have l1 := paRes_len hp
  have l2 := poRes_len hq
  exact ⟨by omega, fun _ => ⟨by omega, fun h => by simp at h⟩, fun h => by simp at h⟩
noncomputable def con_lawSRoots : Con Xp.P FMp := ⟨10, sg_lawSRoots, pr_lawSRoots, ps_lawSRoots, vc_ok (La := la_lawSRoots) (Ca := ca_lawSRoots) 3000 (fn := Go.Proofs.Try.f10) (by kernel_rfl) (c := cd_lawSRoots) (by kernel_rfl) (by kernel_rfl) (by kernel_rfl) (by kernel_rfl) (fun ⟨⟨acc, ⟨⟨A, ⟨ou, c⟩⟩, ⟨⟩⟩⟩, ⟨⟨zcc, ⟨⟨B, ⟨zou, e⟩⟩, ⟨⟩⟩⟩, ⟨i, ⟨⟩⟩⟩⟩ => vc_lawSRoots acc A ou c zcc B zou e i)⟩
theorem XpP : Xp.P = Go.Proofs.Try.prog := by kernel_rfl
theorem law_lawSRoots (W : World) (acc : List (Int × Int × List Int)) (A : Option Addr) (ou : List (Int × Int)) (c : Nat) (zcc : List (Int × Int × List Int)) (B : Option Addr) (zou : List (Int × Int)) (e : Nat) (i : Int) (h1 : acc.length = 32) (h2 : ∀ a ∈ acc, a.2.2.length = 32) (h3 : zcc.length = 32) (h4 : ∀ a ∈ zcc, a.2.2.length = 32) (ha : a64 acc) (hg : ∀ a ∈ acc, rg a.2.2) (hn : ou.length ≤ 140737488355328) (hR : Rd W A (fden fmOut ou ++ [])) (hS : Rd W B (fden fmOut zou ++ [])) : Calls Go.Proofs.Try.prog 10 #[.agg (fden fmAccount acc ++ ([Value.slice A ou.length c] ++ [])).toArray, .agg (fden fmAccount zcc ++ ([Value.slice B zou.length e] ++ [])).toArray, .int .i64 i] W (fun e w' => e = .returned (.bool true) ∧ Hp no W w' []) := by
  have hy : All (sgHy (FM := FMp) sg_lawSRoots ((acc, ((A, (ou, c)), ())), ((zcc, ((B, (zou, e)), ())), (i, ())))) := ⟨h1, h2, fun _ _ => trivial, h3, h4, fun _ _ => trivial, trivial⟩
  have hrk : ROk (FM := FMp) (sgBd (FM := FMp) sg_lawSRoots ((acc, ((A, (ou, c)), ())), ((zcc, ((B, (zou, e)), ())), (i, ()))) 0).1 W (sgBd (FM := FMp) sg_lawSRoots ((acc, ((A, (ou, c)), ())), ((zcc, ((B, (zou, e)), ())), (i, ()))) 0).2 := ⟨⟨hR, ⟨fun a _ => fmRd.flat rfl W a, trivial⟩⟩, ⟨hS, ⟨fun a _ => fmRd.flat rfl W a, trivial⟩⟩, trivial⟩
  have hpr : All (pr_lawSRoots ((acc, ((A, (ou, c)), ())), ((zcc, ((B, (zou, e)), ())), (i, ())))) := ⟨ha, hg, hn, trivial⟩
  have h0 : Calls Xp.P 10 #[.agg (fden fmAccount acc ++ ([Value.slice A ou.length c] ++ [])).toArray, .agg (fden fmAccount zcc ++ ([Value.slice B zou.length e] ++ [])).toArray, .int .i64 i] W ((ps_lawSRoots ((acc, ((A, (ou, c)), ())), ((zcc, ((B, (zou, e)), ())), (i, ())))).R no W) := con_lawSRoots.ok W ((acc, ((A, (ou, c)), ())), ((zcc, ((B, (zou, e)), ())), (i, ()))) hy hrk hpr
  have h1 : Calls Xp.P 10 #[.agg (fden fmAccount acc ++ ([Value.slice A ou.length c] ++ [])).toArray, .agg (fden fmAccount zcc ++ ([Value.slice B zou.length e] ++ [])).toArray, .int .i64 i] W (fun e w' => e = .returned (.bool true) ∧ Hp no W w' []) := h0.mono fun e w' h => by
    obtain ⟨_, h1, _, _, h2, _⟩ := h
    exact ⟨h1, h2⟩
  rw [XpP] at h1
  exact h1

end Go.Pw
end
section
/-
  How arguments read whose slices hold slices: by their types, with their sizes. No condition.
-/
set_option linter.all false
namespace Go.Px
open Go.RowKit Go.ChangeShapes Go.WideShapes

def ftys (P : Program) (t : TypeId) : Option (List TypeId) := match P.underlying t with
  | some (.struct fs) => some (fs.toList.map (·.type))
  | _ => none
def OkTs (R : TypeId → List Value → Prop) : List TypeId → List Value → Prop
  | [], cs => cs = []
  | t :: ts, cs => ∃ c r, cs = c ++ r ∧ R t c ∧ OkTs R ts r
/-- What cells of a type read as: flat ones, slices, structures of these. -/
def OkT (P : Program) (W : World) : Nat → TypeId → List Value → Prop
  | 0, _, _ => False
  | n + 1, t, cs => match flatK P 20 t with
    | some ks => OkC ks cs
    | none => match P.underlying t with
      | some (.slice e) => ∃ (A : Option Addr) (css : List (List Value)) (cap : Nat), cs = [.slice A css.length cap] ∧ (∀ c ∈ css, c.length = P.cellsOf e ∧ OkT P W n e c) ∧ Rd W A css.flatten ∧ css.length ≤ cap ∧ (A = none → css = [] ∧ cap = 0) ∧ cap * P.bytesOf e ≤ reachBytes
      | _ => match ftys P t with
        | some ts => OkTs (OkT P W n) ts cs
        | none => False
def offOk (P : Program) : List Field → Nat → Option Nat
  | [], o => some o
  | f :: fs, o => bif Nat.beq f.offset o then offOk P fs (o + P.cellsOf f.type) else none
/-- Types that are read so. -/
def depT (P : Program) : Nat → TypeId → Bool
  | 0, _ => false
  | n + 1, t => match flatK P 20 t with
    | some _ => true
    | none => match P.underlying t with
      | some (.slice e) => depT P n e && Nat.blt 0 (P.cellsOf e)
      | some (.struct fs) => fs.toList.all (fun f => depT P n f.type) && (match offOk P fs.toList 0 with
        | some o => Nat.beq o (P.cellsOf t)
        | none => false)
      | _ => false

section
variable {H : Type} {enc : TypeId × Value → H} {P : Program} {w : World} {base : Nat} {held : Bool}

theorem wts_mem {e : TypeId} : ∀ {l : List (DataW H)} {d : DataW H}, d ∈ l → ∀ m ∈ d.weights P e, m ∈ DataW.weightsAll P e l
  | [], _, h, _, _ => by cases h
  | x :: l, d, h, m, hm => by
    simp only [DataW.weightsAll, List.mem_append]
    rcases List.mem_cons.1 h with rfl | h
    · exact .inl hm
    · exact .inr (wts_mem h m hm)

/-- A slice, its elements each with what it is told to be. -/
theorem trod_sliceW {t e : TypeId} (ht : P.underlying t = some (.slice e)) (hpos : 0 < P.cellsOf e) {fuel : Nat} {A : Option Addr} {len cap : Nat} {x : DataW H × List MemPlace}
    (hd : DataW.trod enc P w base (fun _ => true) held (fuel + 1) t [.slice A len cap] = some x) :
    ∃ css : List (List Value), css.length = len ∧ len ≤ cap ∧ Rd w A css.flatten ∧ (A = none → css = [] ∧ cap = 0) ∧ (A ≠ none → cap * P.bytesOf e ∈ x.1.weights P t) ∧
      ∀ cs ∈ css, cs.length = P.cellsOf e ∧ ∃ y, DataW.trod enc P w base (fun _ => true) held fuel e cs = some y ∧ ∀ m ∈ y.1.weights P e, m ∈ x.1.weights P t := by
  obtain ⟨css, h1, h2, h3, h4, h5⟩ := trod_slice ht hpos hd
  have hd0 := hd
  unfold DataW.trod at hd
  rw [ht] at hd
  cases A with
  | none =>
    have h0 : len = 0 ∧ cap = 0 := by cases len <;> cases cap <;> simp_all
    obtain ⟨rfl, rfl⟩ := h0
    have := List.length_eq_zero_iff.1 h1
    subst this
    exact ⟨[], rfl, Nat.le_refl _, h5, fun _ => ⟨rfl, rfl⟩, fun h => (h rfl).elim, by simp⟩
  | some a =>
    simp only at hd
    split at hd
    · rename_i hc
      obtain ⟨elems, he, hd⟩ := Option.bind_eq_some_iff.1 hd
      simp only [if_true] at hd
      obtain ⟨rest, hr, hx⟩ := Option.map_eq_some_iff.1 hd
      have e1 := (mapM_get he).1
      have e2 := (mapM_get hr).1
      simp only [List.length_range] at e1 e2
      have hxw : x.1.weights P t = ((elems.map (·.1)).length + (rest.map (·.1)).length) * P.bytesOf e :: (DataW.weightsAll P e (elems.map (·.1)) ++ DataW.weightsAll P e (rest.map (·.1))) := by
        rw [← hx]; simp only [DataW.weights, ht]
      -- the cells of each element
      have hcs : ∀ i, i < len → ∃ cs y, w.cells? base (a.add (i * P.cellsOf e)) (P.cellsOf e) = some cs ∧ DataW.trod enc P w base (fun _ => true) held fuel e cs = some y ∧ y ∈ elems := by
        intro i hi
        obtain ⟨y, hy, hyr⟩ := (mapM_get he).2 i (by simpa using hi)
        obtain ⟨cs, g1, g2⟩ := Option.bind_eq_some_iff.1 hy
        exact ⟨cs, y, by simpa using g1, g2, List.mem_of_getElem? hyr⟩
      have hrow : ∀ i (hi : i < css.length), ∃ cs y, css[i] = cs ∧ DataW.trod enc P w base (fun _ => true) held fuel e cs = some y ∧ y ∈ elems := by
        intro i hi
        obtain ⟨cs, y, g1, g2, g3⟩ := hcs i (by omega)
        obtain ⟨c1, c2⟩ := cell_of_cells? g1
        refine ⟨cs, y, ?_, g2, g3⟩
        -- both read the same cells
        have hfl : ∀ (css : List (List Value)) (n : Nat), (∀ cs ∈ css, cs.length = n) → ∀ i j, i < css.length → j < n → css.flatten[i * n + j]? = (css[i]?.getD [])[j]? := by
          intro css n
          induction css with
          | nil => simp
          | cons c css ih =>
            intro h i j hi hj
            have hcl := h c (by simp)
            cases i with
            | zero => rw [List.flatten_cons, Nat.zero_mul, Nat.zero_add, List.getElem?_append_left (by omega)]; simp
            | succ i =>
              rw [List.flatten_cons, List.getElem?_append_right (by rw [Nat.succ_mul]; omega), show (i + 1) * n + j - c.length = i * n + j by rw [Nat.succ_mul]; omega, ih (fun x hx => h x (by simp [hx])) i j (by simpa using hi) hj]
              simp
        have hlen : ∀ cs ∈ css, cs.length = P.cellsOf e := fun cs hcs' => (h4 cs hcs').1
        have hl2 : css.flatten.length = css.length * P.cellsOf e := by
          have : ∀ (css : List (List Value)) (n : Nat), (∀ cs ∈ css, cs.length = n) → css.flatten.length = css.length * n := by
            intro css n
            induction css with
            | nil => simp
            | cons c css ih => intro h; simp only [List.flatten_cons, List.length_append, h c (by simp), ih (fun x hx => h x (by simp [hx])), List.length_cons, Nat.succ_mul]; omega
          exact this css _ hlen
        refine List.ext_getElem? fun j => ?_
        by_cases hj : j < P.cellsOf e
        · have f2 := hfl css _ hlen i j hi hj
          rw [List.getElem?_eq_getElem hi] at f2
          simp only [Option.getD_some] at f2
          rw [← f2]
          have hk : i * P.cellsOf e + j < css.flatten.length := by
            rw [hl2]
            have := Nat.mul_le_mul_right (P.cellsOf e) (show i + 1 ≤ css.length by omega)
            rw [Nat.succ_mul] at this; omega
          rcases h5 with h5 | ⟨b, off, blk, T, fr, hA, hb, hcc⟩
          · rw [h5] at hk; simp at hk
          · simp only [Option.some.injEq] at hA
            subst hA
            rw [← hcc _ hk, ← c2 j hj]
            simp only [Addr.add]
            by_cases hz : i * P.cellsOf e = 0 <;> by_cases hz2 : j = 0 <;> simp [hz, hz2, World.cell?, hb, Nat.add_assoc]
        · rw [List.getElem?_eq_none (by rw [hlen _ (List.getElem_mem hi)]; omega), List.getElem?_eq_none (by omega)]
      refine ⟨css, h1, h2, h5, fun h => (by cases h), fun _ => ?_, fun cs hcs' => ?_⟩
      · rw [hxw]
        have : (elems.map (·.1)).length + (rest.map (·.1)).length = cap := by simp [e1, e2]; omega
        rw [this]; simp
      · obtain ⟨i, hi, rfl⟩ := List.mem_iff_getElem.1 hcs'
        obtain ⟨cs, y, g1, g2, g3⟩ := hrow i hi
        refine ⟨(h4 _ hcs').1, y, by rw [g1]; exact g2, fun m hm => ?_⟩
        rw [hxw]
        exact List.mem_cons_of_mem _ (List.mem_append_left _ (wts_mem (List.mem_map.2 ⟨y, g3, rfl⟩) m hm))
    · simp at hd


theorem okT_of : ∀ (n : Nat) {t : TypeId} {fuel : Nat} {cs : List Value} {x : DataW H × List MemPlace}, depT P n t = true → DataW.trod enc P w base (fun _ => true) held fuel t cs = some x → (∀ m ∈ x.1.weights P t, m ≤ reachBytes) → OkT P w n t cs
  | 0, _, _, _, _, h, _, _ => by simp [depT] at h
  | n + 1, t, fuel, cs, x, h, hd, hw => by
    unfold depT at h
    unfold OkT
    cases hf : flatK P 20 t with
    | some ks => simp only; exact flat_trod 20 fuel hf hd
    | none =>
      rw [hf] at h
      simp only at h ⊢
      cases fuel with
      | zero => simp [DataW.trod] at hd
      | succ fuel =>
        split at h
        · rename_i e hu
          simp only [Bool.and_eq_true] at h
          have hpos := Nat.blt_eq.mp h.2
          have hform : ∃ A len cap, cs = [.slice A len cap] := by
            unfold DataW.trod at hd
            rw [hu] at hd
            split at hd <;> simp_all
          obtain ⟨A, len, cap, rfl⟩ := hform
          obtain ⟨css, h1, h2, h3, h4, h5, h6⟩ := trod_sliceW hu hpos hd
          subst h1
          rw [hu]
          show ∃ (A' : Option Addr) (css' : List (List Value)) (cap' : Nat), [Value.slice A css.length cap] = [.slice A' css'.length cap'] ∧ (∀ c ∈ css', c.length = P.cellsOf e ∧ OkT P w n e c) ∧ Rd w A' css'.flatten ∧ css'.length ≤ cap' ∧ (A' = none → css' = [] ∧ cap' = 0) ∧ cap' * P.bytesOf e ≤ reachBytes
          refine ⟨A, css, cap, rfl, fun c hc => ?_, h3, h2, h4, ?_⟩
          · obtain ⟨g1, y, g2, g3⟩ := h6 c hc
            exact ⟨g1, okT_of n h.1 g2 fun m hm => hw m (g3 m hm)⟩
          · by_cases hA : A = none
            · rw [(h4 hA).2]; simp
            · exact hw _ (h5 hA)
        · rename_i fs hu
          simp only [Bool.and_eq_true] at h
          have hft : ftys P t = some (fs.toList.map (·.type)) := by unfold ftys; rw [hu]
          unfold DataW.trod at hd
          rw [hu] at hd
          simp only at hd
          split at hd
          · rename_i hl
            obtain ⟨r, hr, rfl⟩ := Option.map_eq_some_iff.1 hd
            have hw2 : ∀ m ∈ DataW.weightsEach P (fs.toList.map (·.type)) (r.map (·.1)), m ≤ reachBytes := by
              intro m hm
              refine hw m ?_
              simp only [DataW.weights, hu]; exact hm
            have key : ∀ (gs : List Field) (o z : Nat) (r : List (DataW H × List MemPlace)), offOk P gs o = some z → (∀ g ∈ gs, depT P n g.type = true) → z ≤ cs.length →
                gs.mapM (fun f => DataW.trod enc P w base (fun _ => true) held fuel f.type ((cs.drop f.offset).take (P.cellsOf f.type))) = some r → (∀ m ∈ DataW.weightsEach P (gs.map (·.type)) (r.map (·.1)), m ≤ reachBytes) →
                o ≤ z ∧ OkTs (OkT P w n) (gs.map (·.type)) ((cs.drop o).take (z - o)) := by
              intro gs
              induction gs with
              | nil =>
                intro o z r h1 _ hz _ _
                simp only [offOk, Option.some.injEq] at h1; subst h1
                exact ⟨Nat.le_refl _, by simp [OkTs]⟩
              | cons g gs ih =>
                intro o z r h1 hg hz h2 h3
                simp only [offOk, cond_eq_ite] at h1
                split at h1
                · rename_i ho
                  have ho := Nat.eq_of_beq_eq_true ho
                  obtain ⟨x, y, hx, hy, rfl⟩ := mapM_some_cons h2
                  simp only [List.map_cons, DataW.weightsEach, List.mem_append] at h3
                  obtain ⟨i1, i2⟩ := ih _ _ _ h1 (fun g' hg' => hg g' (by simp [hg'])) hz hy (fun m hm => h3 m (.inr hm))
                  refine ⟨by omega, _, _, ?_, okT_of n (hg g (by simp)) hx (fun m hm => h3 m (.inl hm)), i2⟩
                  rw [ho, ← List.drop_drop, show z - o = P.cellsOf g.type + (z - (o + P.cellsOf g.type)) by omega, List.take_add]
                · cases h1
            have h2 := h.2
            split at h2
            · rename_i o ho
              have h2 := Nat.eq_of_beq_eq_true h2
              obtain ⟨-, k2⟩ := key fs.toList 0 o r ho (fun g hg => List.all_eq_true.1 h.1 g hg) (by omega) hr hw2
              rw [List.drop_zero, Nat.sub_zero, List.take_of_length_le (by omega)] at k2
              have : (match P.underlying t with
                | some (.slice e) => ∃ (A : Option Addr) (css : List (List Value)) (cap : Nat), cs = [.slice A css.length cap] ∧ (∀ c ∈ css, c.length = P.cellsOf e ∧ OkT P w n e c) ∧ Rd w A css.flatten ∧ css.length ≤ cap ∧ (A = none → css = [] ∧ cap = 0) ∧ cap * P.bytesOf e ≤ reachBytes
                | _ => match ftys P t with
                  | some ts => OkTs (OkT P w n) ts cs
                  | none => False) := by
                rw [hu, hft]; exact k2
              exact this
            · cases h2
          · simp at hd
        · cases h
theorem okT_flat {n : Nat} {t : TypeId} {cs : List Value} {ks : List CK} (h : OkT P w (n + 1) t cs) (hf : flatK P 20 t = some ks) : OkC ks cs := by
  unfold OkT at h; rw [hf] at h; exact h
theorem okT_slice {n : Nat} {t e : TypeId} {cs : List Value} (h : OkT P w (n + 1) t cs) (hf : (flatK P 20 t).isNone = true) (hu : P.underlying t = some (.slice e)) :
    ∃ (A : Option Addr) (css : List (List Value)) (cap : Nat), cs = [.slice A css.length cap] ∧ (∀ c ∈ css, c.length = P.cellsOf e ∧ OkT P w n e c) ∧ Rd w A css.flatten ∧ css.length ≤ cap ∧ (A = none → css = [] ∧ cap = 0) ∧ cap * P.bytesOf e ≤ reachBytes := by
  unfold OkT at h; rw [Option.isNone_iff_eq_none.1 hf, hu] at h; exact h
def isSt (P : Program) (t : TypeId) (ts : List TypeId) : Bool := (flatK P 20 t).isNone && ftys P t == some ts
theorem okT_struct {n : Nat} {t : TypeId} {cs : List Value} {ts : List TypeId} (h : OkT P w (n + 1) t cs) (hf : isSt P t ts = true) : OkTs (OkT P w n) ts cs := by
  simp only [isSt, Bool.and_eq_true, beq_iff_eq] at hf
  unfold OkT at h
  rw [Option.isNone_iff_eq_none.1 hf.1] at h
  have h2 := hf.2
  unfold ftys at h2
  split at h2
  · rename_i fs hu
    simp only [Option.some.injEq] at h2
    simp only at h
    rw [hu] at h
    simp only [ftys, hu, h2] at h
    exact h
  · cases h2
/-- An argument. -/
theorem okT_arg {ts : List TypeId} {ds : List (DataW H)} {t : TypeId} {v : Value} {d : DataW H} {ps : List MemPlace} (n j : Nat) (hsz : (DataW.weightsEach P ts ds).all (· ≤ reachBytes) = true) (h1 : ts[j]? = some t) (h2 : ds[j]? = some d)
    (hd : DataW.Trod enc P w base (fun _ => true) held t v d ps) (hn : depT P n t = true) : OkT P w n t v.cells.toList := by
  obtain ⟨fuel, hf⟩ := hd
  exact okT_of n hn hf fun m hm => by
    have := List.all_eq_true.1 hsz m (DataW.weights_mem_each h1 h2 m hm)
    simpa using this
end
/-- A structure that is handed in. -/
theorem open_dst {P : Program} {w : World} {n : Nat} {r : Reach} {b0 : Nat} {t : TypeId} {v : Value} (ht : isStr P t = true) (hval : Value.okWide P w r b0 t v) (h : OkT P w n t v.cells.toList) :
    ∃ cs : List Value, v = .agg cs.toArray ∧ OkT P w n t cs := by
  obtain ⟨fs, ht⟩ := isStr_some ht
  obtain ⟨cs, rfl, hs⟩ := okWide_struct ht hval
  exact ⟨cs.toList, rfl, by simpa [Value.cells] using h⟩
/-- Rows of cells as values of one form. -/
theorem rows_of {α : Type} {R : List Value → Prop} {form : α → List Value} {ok : α → Prop} (h : ∀ cs, R cs → ∃ a, cs = form a ∧ ok a) : ∀ {css : List (List Value)}, (∀ cs ∈ css, R cs) → ∃ l : List α, css.flatten = l.flatMap form ∧ l.length = css.length ∧ ∀ a ∈ l, ok a
  | [], _ => ⟨[], rfl, rfl, by simp⟩
  | cs :: css, hc => by
    obtain ⟨a, rfl, ha⟩ := h cs (hc cs (by simp))
    obtain ⟨l, h1, h2, h3⟩ := rows_of h (css := css) (fun x hx => hc x (by simp [hx]))
    exact ⟨a :: l, by simp [h1], by simp [h2], by simpa [ha] using h3⟩
end Go.Px
end
