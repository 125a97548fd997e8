/-
  Walks by computing. No condition.
-/
import Derived.Test.YtogpbbgcdeiplaaMe4
set_option linter.all false
set_option maxRecDepth 100000
set_option maxHeartbeats 1000000
namespace Go.Pw
open Go Go.Px Go.RowKit
attribute [local irreducible] shaF

def rtR : Nat → List (List Int) → List Int
  | 0, ls => ls.getD 0 (List.replicate 32 0)
  | d + 1, ls => if ls.length = 0 then pr2 (rtR d []) (rtR d []) else if ls.length ≤ 2 ^ d then pr2 (rtR d ls) (rtR d []) else pr2 (rtR d (ls.take (2 ^ d))) (rtR d (ls.drop (2 ^ d)))
theorem rtR_length : ∀ (n : Nat) {ls : List (List Int)}, (∀ a ∈ ls, a.length = 32) → (rtR n ls).length = 32
  | 0, ls, h => by
    rw [rtR]
    by_cases hl : 0 < ls.length
    · exact mem_getD h hl _
    · rw [List.getD_eq_getElem?_getD, List.getElem?_eq_none (by omega)]; simp
  | n + 1, ls, h => by
    rw [rtR]
    split
    · exact pr2_length _ _
    · split <;> exact pr2_length _ _
theorem rtR_rg : ∀ (n : Nat) {ls : List (List Int)}, (∀ a ∈ ls, rg a) → rg (rtR n ls)
  | 0, ls, h => by rw [rtR]; exact rg_getD h _ _ (rg_z 32)
  | n + 1, ls, h => by
    rw [rtR]
    split
    · exact rg_pr2 _ _
    · split <;> exact rg_pr2 _ _
theorem rtR_nil : ∀ n, rtR n [] = emp n
  | 0 => rfl
  | n + 1 => by rw [rtR, List.length_nil, if_pos rfl, rtR_nil n, pr2, emp]
theorem lvl_nil : ∀ n, lvl [] n = []
  | 0 => rfl
  | n + 1 => by rw [lvl, lvl_nil n]; rfl
theorem lvl_app : ∀ (d : Nat) (xs ys : List (List Int)), xs.length = 2 ^ d → (∃ a, lvl xs d = [a]) ∧ lvl (xs ++ ys) d = lvl xs d ++ lvl ys d
  | 0, xs, ys, h => by
    match xs, h with
    | [x], _ => exact ⟨⟨x, rfl⟩, rfl⟩
  | d + 1, xs, ys, h => by
    have hp : 2 ^ (d + 1) = 2 ^ d * 2 := Nat.pow_succ 2 d
    have h1 : (xs.take (2 ^ d)).length = 2 ^ d := by rw [List.length_take]; omega
    have h2 : (xs.drop (2 ^ d)).length = 2 ^ d := by rw [List.length_drop]; omega
    have e : xs = xs.take (2 ^ d) ++ xs.drop (2 ^ d) := (List.take_append_drop _ _).symm
    generalize xs.take (2 ^ d) = x1 at e h1
    generalize xs.drop (2 ^ d) = x2 at e h2
    subst e
    obtain ⟨⟨a, ea⟩, e1⟩ := lvl_app d x1 (x2 ++ ys) h1
    obtain ⟨-, e2⟩ := lvl_app d x1 x2 h1
    obtain ⟨⟨b, eb⟩, e3⟩ := lvl_app d x2 ys h2
    have e4 : lvl (x1 ++ x2) (d + 1) = [pr2 a b] := by rw [lvl, e2, ea, eb]; rfl
    refine ⟨⟨_, e4⟩, ?_⟩
    rw [e4, List.append_assoc, lvl, e1, e3, ea, eb, lvl]; rfl
theorem lvl_one : ∀ (d : Nat) (ls : List (List Int)), 0 < ls.length → ls.length ≤ 2 ^ d → lvl ls d = [rtR d ls]
  | 0, ls, h0, h1 => by
    match ls, h0, h1 with
    | [x], _, _ => rfl
    | _ :: _ :: _, _, h1 => simp at h1
  | d + 1, ls, h0, h1 => by
    have hp : 2 ^ (d + 1) = 2 ^ d * 2 := Nat.pow_succ 2 d
    rw [rtR, if_neg (by omega)]
    by_cases h : ls.length ≤ 2 ^ d
    · rw [if_pos h, lvl, lvl_one d ls h0 h, rtR_nil]; rfl
    · rw [if_neg h]
      have h2 : (ls.take (2 ^ d)).length = 2 ^ d := by rw [List.length_take]; omega
      obtain ⟨-, e1⟩ := lvl_app d (ls.take (2 ^ d)) (ls.drop (2 ^ d)) h2
      rw [List.take_append_drop, lvl_one d (ls.take (2 ^ d)) (by omega) (by omega), lvl_one d (ls.drop (2 ^ d)) (by rw [List.length_drop]; omega) (by rw [List.length_drop]; omega)] at e1
      rw [lvl, e1]; rfl
theorem rt_lvl (d : Nat) (ls : List (List Int)) (h : ls.length ≤ 2 ^ d) : (lvl ls d).getD 0 (emp d) = rtR d ls := by
  by_cases h0 : 0 < ls.length
  · rw [lvl_one d ls h0 h]; rfl
  · have : ls = [] := List.eq_nil_of_length_eq_zero (by omega)
    subst this
    rw [lvl_nil, rtR_nil]; rfl
theorem sib_lvl (k : Nat) : ∀ (o : Nat) (ls : List (List Int)), (lvl ls k).getD o (emp k) = rtR k ((ls.drop (o * 2 ^ k)).take (2 ^ k))
  | 0, ls => by
    rw [Nat.zero_mul, List.drop_zero]
    by_cases h : ls.length ≤ 2 ^ k
    · rw [List.take_of_length_le h, rt_lvl k ls h]
    · have h2 : (ls.take (2 ^ k)).length = 2 ^ k := by rw [List.length_take]; omega
      obtain ⟨-, e1⟩ := lvl_app k (ls.take (2 ^ k)) (ls.drop (2 ^ k)) h2
      rw [List.take_append_drop, lvl_one k (ls.take (2 ^ k)) (by rw [h2]; exact Nat.pow_pos (by omega)) (by omega)] at e1
      rw [e1]; rfl
  | o + 1, ls => by
    by_cases h : ls.length < 2 ^ k
    · have hm : 2 ^ k ≤ (o + 1) * 2 ^ k := Nat.le_mul_of_pos_left _ (by omega)
      rw [List.drop_eq_nil_of_le (by omega), List.take_nil, rtR_nil]
      by_cases h0 : 0 < ls.length
      · rw [lvl_one k ls h0 (by omega)]; rfl
      · have : ls = [] := List.eq_nil_of_length_eq_zero (by omega)
        subst this
        rw [lvl_nil]; rfl
    · have h2 : (ls.take (2 ^ k)).length = 2 ^ k := by rw [List.length_take]; omega
      obtain ⟨⟨a, ea⟩, e1⟩ := lvl_app k (ls.take (2 ^ k)) (ls.drop (2 ^ k)) h2
      rw [List.take_append_drop, ea] at e1
      rw [e1, List.singleton_append, List.getD_cons_succ, sib_lvl k o, List.drop_drop, show 2 ^ k + o * 2 ^ k = (o + 1) * 2 ^ k by rw [Nat.add_mul]; omega]

noncomputable def cd_rroot0 : Code := (Go.Proofs.Try.f88.body).getD .skip
def sg_rroot0 : List Arg := [.one (.int .i64), .one (.slr 0)]
def pr_rroot0 (k : Nat) : SgT FMp sg_rroot0 → List Prop
  | (d, ((A, (ls, c)), ())) => (fun (d : Int) (A : Option Addr) (ls : List (List Int)) (c : Nat) => ([0 ≤ d, d < k, d ≤ 16, ls.length ≤ 2 ^ d.toNat, ls.length ≤ c, ∀ a ∈ ls, rg a] : List Prop)) d A ls c
def ps_rroot0 : SgT FMp sg_rroot0 → PS FMp
  | (d, ((A, (ls, c)), ())) => (fun (d : Int) (A : Option Addr) (ls : List (List Int)) (c : Nat) => (⟨Unit, fun y => [], fun y => .v (.ag (zz .u8 (rtR d.toNat ls) 32)), fun y => [], fun y => [(rtR d.toNat ls).length = 32, rg (rtR d.toNat ls)]⟩ : PS FMp)) d A ls c
def la_rroot0 : SgT FMp sg_rroot0 → List (Nat × (SS FMp → HA FMp))
  | (d, ((A, (ls, c)), ())) => (fun (d : Int) (A : Option Addr) (ls : List (List Int)) (c : Nat) => ([] : List (Nat × (SS FMp → HA FMp)))) d A ls c
def ca_rroot0 : SgT FMp sg_rroot0 → List (Nat × (SS FMp → HA FMp))
  | (d, ((A, (ls, c)), ())) => (fun (d : Int) (A : Option Addr) (ls : List (List Int)) (c : Nat) => ([] : List (Nat × (SS FMp → HA FMp)))) d A ls c
abbrev RT_rroot0 (k : Nat) : Prop := ∀ (w : World) (x : SgT FMp sg_rroot0), All (sgHy sg_rroot0 x) → ROk (sgBd sg_rroot0 x 0).1 w (sgBd sg_rroot0 x 0).2 → All (pr_rroot0 k x) → Calls Xp.P 88 ((sgTv sg_rroot0 x 0).map (TV.den (sgBd sg_rroot0 x 0).1)).toArray w ((ps_rroot0 x).R no w)
theorem vc_rroot0 (k : Nat) (hk : RT_rroot0 k) (d : Int) (A : Option Addr) (ls : List (List Int)) (c : Nat) : Vc (vc (FM := FMp) Xp 54 [⟨88, sg_rroot0, pr_rroot0 k, ps_rroot0, hk⟩, con_rpair] (la_rroot0 (d, ((A, (ls, c)), ()))) (ca_rroot0 (d, ((A, (ls, c)), ()))) [] [] [.cell 4 40] sg_rroot0 (pr_rroot0 (k + 1)) ps_rroot0 cd_rroot0 300 (d, ((A, (ls, c)), ()))) := by
  refine ⟨Eq.mpr (β := (∀ (a : List Int), a ∈ ls → a.length = (32 : Nat)) → (0 : Int) ≤ d → d < (↑(k + (1 : Nat)) : Int) → d ≤ (16 : Int) → ls.length ≤ (2 : Nat) ^ d.toNat → ls.length ≤ c → (∀ (a : List Int), a ∈ ls → rg a) → ∀ (b : Nat), (decide (d = (0 : Int)) = true → (decide ((0 : Int) < (↑ls.length : Int)) = true → (0 : Int) ≤ (0 : Int) ∧ (0 : Int) < (↑ls.length : Int) ∧ (0 : Nat) < ls.length ∧ (0 : Nat) < ls.length ∧ ∃ (y : Unit), ls.getD (0 : Nat) (List.replicate (32 : Nat) (0 : Int)) = rtR d.toNat ls ∧ (32 : Nat) = (32 : Nat) ∧ (rtR d.toNat ls).length = (32 : Nat) ∧ rg (rtR d.toNat ls)) ∧ (decide ((0 : Int) < (↑ls.length : Int)) = false → ∃ (y : Unit), List.replicate (32 : Nat) (0 : Int) = rtR d.toNat ls ∧ (32 : Nat) = (32 : Nat) ∧ (rtR d.toNat ls).length = (32 : Nat) ∧ rg (rtR d.toNat ls))) ∧ (decide (d = (0 : Int)) = false → (-9223372036854775808 : Int) ≤ d - (1 : Int) ∧ d - (1 : Int) ≤ (9223372036854775807 : Int) ∧ (0 : Int) ≤ IntKind.u64.wrap (d - (1 : Int)) ∧ (decide ((↑ls.length : Int) = (0 : Int)) = true → (-9223372036854775808 : Int) ≤ d - (1 : Int) ∧ d - (1 : Int) ≤ (9223372036854775807 : Int) ∧ (0 : Int) ≤ d - (1 : Int) ∧ d - (1 : Int) < (↑k : Int) ∧ d - (1 : Int) ≤ (16 : Int) ∧ (0 : Nat) ≤ (2 : Nat) ^ (d - (1 : Int)).toNat ∧ (0 : Nat) ≤ (0 : Nat) ∧ (∀ (a : List Int), a ∈ [] → rg a) ∧ ∀ (y : Unit), (rtR (d - (1 : Int)).toNat []).length = (32 : Nat) → (rtR (d - (1 : Int)).toNat []).length = (32 : Nat) → rg (rtR (d - (1 : Int)).toNat []) → ∀ (b : Nat), (∀ (j : Nat), (0 : Int) ≤ (rtR (d - (1 : Int)).toNat []).getD j (0 : Int) ∧ (rtR (d - (1 : Int)).toNat []).getD j (0 : Int) < (256 : Int)) ∧ (∀ (j : Nat), (0 : Int) ≤ (rtR (d - (1 : Int)).toNat []).getD j (0 : Int) ∧ (rtR (d - (1 : Int)).toNat []).getD j (0 : Int) < (256 : Int)) ∧ ∀ (y : Unit), (shaF ([(1 : Int)] ++ rtR (d - (1 : Int)).toNat [] ++ rtR (d - (1 : Int)).toNat [])).length = (32 : Nat) → (shaF ([(1 : Int)] ++ rtR (d - (1 : Int)).toNat [] ++ rtR (d - (1 : Int)).toNat [])).length = (32 : Nat) → ∃ (y : Unit), shaF ([(1 : Int)] ++ rtR (d - (1 : Int)).toNat [] ++ rtR (d - (1 : Int)).toNat []) = rtR d.toNat ls ∧ (32 : Nat) = (32 : Nat) ∧ (rtR d.toNat ls).length = (32 : Nat) ∧ rg (rtR d.toNat ls)) ∧ (decide ((↑ls.length : Int) = (0 : Int)) = false → (decide ((↑ls.length : Int) ≤ shlV IntKind.i64 (1 : Int) (IntKind.u64.wrap (d - (1 : Int)))) = true → (-9223372036854775808 : Int) ≤ d - (1 : Int) ∧ d - (1 : Int) ≤ (9223372036854775807 : Int) ∧ ls.length = ls.length ∧ (0 : Int) ≤ d - (1 : Int) ∧ d - (1 : Int) < (↑k : Int) ∧ d - (1 : Int) ≤ (16 : Int) ∧ ls.length ≤ (2 : Nat) ^ (d - (1 : Int)).toNat ∧ ls.length ≤ c ∧ (∀ (a : List Int), a ∈ ls → rg a) ∧ ∀ (y : Unit), (rtR (d - (1 : Int)).toNat ls).length = (32 : Nat) → (rtR (d - (1 : Int)).toNat ls).length = (32 : Nat) → rg (rtR (d - (1 : Int)).toNat ls) → (-9223372036854775808 : Int) ≤ d - (1 : Int) ∧ d - (1 : Int) ≤ (9223372036854775807 : Int) ∧ (0 : Int) ≤ d - (1 : Int) ∧ d - (1 : Int) < (↑k : Int) ∧ d - (1 : Int) ≤ (16 : Int) ∧ (0 : Nat) ≤ (2 : Nat) ^ (d - (1 : Int)).toNat ∧ (0 : Nat) ≤ (0 : Nat) ∧ (∀ (a : List Int), a ∈ [] → rg a) ∧ ∀ (y : Unit), (rtR (d - (1 : Int)).toNat []).length = (32 : Nat) → (rtR (d - (1 : Int)).toNat []).length = (32 : Nat) → rg (rtR (d - (1 : Int)).toNat []) → (∀ (j : Nat), (0 : Int) ≤ (rtR (d - (1 : Int)).toNat ls).getD j (0 : Int) ∧ (rtR (d - (1 : Int)).toNat ls).getD j (0 : Int) < (256 : Int)) ∧ (∀ (j : Nat), (0 : Int) ≤ (rtR (d - (1 : Int)).toNat []).getD j (0 : Int) ∧ (rtR (d - (1 : Int)).toNat []).getD j (0 : Int) < (256 : Int)) ∧ ∀ (y : Unit), (shaF ([(1 : Int)] ++ rtR (d - (1 : Int)).toNat ls ++ rtR (d - (1 : Int)).toNat [])).length = (32 : Nat) → (shaF ([(1 : Int)] ++ rtR (d - (1 : Int)).toNat ls ++ rtR (d - (1 : Int)).toNat [])).length = (32 : Nat) → ∃ (y : Unit), shaF ([(1 : Int)] ++ rtR (d - (1 : Int)).toNat ls ++ rtR (d - (1 : Int)).toNat []) = rtR d.toNat ls ∧ (32 : Nat) = (32 : Nat) ∧ (rtR d.toNat ls).length = (32 : Nat) ∧ rg (rtR d.toNat ls)) ∧ (decide ((↑ls.length : Int) ≤ shlV IntKind.i64 (1 : Int) (IntKind.u64.wrap (d - (1 : Int)))) = false → (-9223372036854775808 : Int) ≤ d - (1 : Int) ∧ d - (1 : Int) ≤ (9223372036854775807 : Int) ∧ (0 : Int) ≤ shlV IntKind.i64 (1 : Int) (IntKind.u64.wrap (d - (1 : Int))) ∧ shlV IntKind.i64 (1 : Int) (IntKind.u64.wrap (d - (1 : Int))) ≤ (↑c : Int) ∧ (-9223372036854775808 : Int) ≤ d - (1 : Int) ∧ d - (1 : Int) ≤ (9223372036854775807 : Int) ∧ (0 : Int) ≤ (some (shlV IntKind.i64 (1 : Int) (IntKind.u64.wrap (d - (1 : Int))))).getD (0 : Int) ∧ ((some (shlV IntKind.i64 (1 : Int) (IntKind.u64.wrap (d - (1 : Int))))).getD (0 : Int)).toNat ≤ ls.length ∧ ls.length ≤ c ∧ (shlV IntKind.i64 (1 : Int) (IntKind.u64.wrap (d - (1 : Int)))).toNat = (shlV IntKind.i64 (1 : Int) (IntKind.u64.wrap (d - (1 : Int)))).toNat ∧ (0 : Nat) + (shlV IntKind.i64 (1 : Int) (IntKind.u64.wrap (d - (1 : Int)))).toNat ≤ ls.length ∧ (0 : Int) ≤ d - (1 : Int) ∧ d - (1 : Int) < (↑k : Int) ∧ d - (1 : Int) ≤ (16 : Int) ∧ (List.take (shlV IntKind.i64 (1 : Int) (IntKind.u64.wrap (d - (1 : Int)))).toNat (List.drop (0 : Nat) ls)).length ≤ (2 : Nat) ^ (d - (1 : Int)).toNat ∧ (List.take (shlV IntKind.i64 (1 : Int) (IntKind.u64.wrap (d - (1 : Int)))).toNat (List.drop (0 : Nat) ls)).length ≤ c ∧ (∀ (a : List Int), a ∈ List.take (shlV IntKind.i64 (1 : Int) (IntKind.u64.wrap (d - (1 : Int)))).toNat (List.drop (0 : Nat) ls) → rg a) ∧ ∀ (y : Unit), (rtR (d - (1 : Int)).toNat (List.take (shlV IntKind.i64 (1 : Int) (IntKind.u64.wrap (d - (1 : Int)))).toNat (List.drop (0 : Nat) ls))).length = (32 : Nat) → (rtR (d - (1 : Int)).toNat (List.take (shlV IntKind.i64 (1 : Int) (IntKind.u64.wrap (d - (1 : Int)))).toNat (List.drop (0 : Nat) ls))).length = (32 : Nat) → rg (rtR (d - (1 : Int)).toNat (List.take (shlV IntKind.i64 (1 : Int) (IntKind.u64.wrap (d - (1 : Int)))).toNat (List.drop (0 : Nat) ls))) → ls.length - ((some (shlV IntKind.i64 (1 : Int) (IntKind.u64.wrap (d - (1 : Int))))).getD (0 : Int)).toNat = ls.length - ((some (shlV IntKind.i64 (1 : Int) (IntKind.u64.wrap (d - (1 : Int))))).getD (0 : Int)).toNat ∧ ((some (shlV IntKind.i64 (1 : Int) (IntKind.u64.wrap (d - (1 : Int))))).getD (0 : Int)).toNat + (ls.length - ((some (shlV IntKind.i64 (1 : Int) (IntKind.u64.wrap (d - (1 : Int))))).getD (0 : Int)).toNat) ≤ ls.length ∧ (0 : Int) ≤ d - (1 : Int) ∧ d - (1 : Int) < (↑k : Int) ∧ d - (1 : Int) ≤ (16 : Int) ∧ (List.take (ls.length - ((some (shlV IntKind.i64 (1 : Int) (IntKind.u64.wrap (d - (1 : Int))))).getD (0 : Int)).toNat) (List.drop ((some (shlV IntKind.i64 (1 : Int) (IntKind.u64.wrap (d - (1 : Int))))).getD (0 : Int)).toNat ls)).length ≤ (2 : Nat) ^ (d - (1 : Int)).toNat ∧ (List.take (ls.length - ((some (shlV IntKind.i64 (1 : Int) (IntKind.u64.wrap (d - (1 : Int))))).getD (0 : Int)).toNat) (List.drop ((some (shlV IntKind.i64 (1 : Int) (IntKind.u64.wrap (d - (1 : Int))))).getD (0 : Int)).toNat ls)).length ≤ c - ((some (shlV IntKind.i64 (1 : Int) (IntKind.u64.wrap (d - (1 : Int))))).getD (0 : Int)).toNat ∧ (∀ (a : List Int), a ∈ List.take (ls.length - ((some (shlV IntKind.i64 (1 : Int) (IntKind.u64.wrap (d - (1 : Int))))).getD (0 : Int)).toNat) (List.drop ((some (shlV IntKind.i64 (1 : Int) (IntKind.u64.wrap (d - (1 : Int))))).getD (0 : Int)).toNat ls) → rg a) ∧ ∀ (y : Unit), (rtR (d - (1 : Int)).toNat (List.take (ls.length - ((some (shlV IntKind.i64 (1 : Int) (IntKind.u64.wrap (d - (1 : Int))))).getD (0 : Int)).toNat) (List.drop ((some (shlV IntKind.i64 (1 : Int) (IntKind.u64.wrap (d - (1 : Int))))).getD (0 : Int)).toNat ls))).length = (32 : Nat) → (rtR (d - (1 : Int)).toNat (List.take (ls.length - ((some (shlV IntKind.i64 (1 : Int) (IntKind.u64.wrap (d - (1 : Int))))).getD (0 : Int)).toNat) (List.drop ((some (shlV IntKind.i64 (1 : Int) (IntKind.u64.wrap (d - (1 : Int))))).getD (0 : Int)).toNat ls))).length = (32 : Nat) → rg (rtR (d - (1 : Int)).toNat (List.take (ls.length - ((some (shlV IntKind.i64 (1 : Int) (IntKind.u64.wrap (d - (1 : Int))))).getD (0 : Int)).toNat) (List.drop ((some (shlV IntKind.i64 (1 : Int) (IntKind.u64.wrap (d - (1 : Int))))).getD (0 : Int)).toNat ls))) → (∀ (j : Nat), (0 : Int) ≤ (rtR (d - (1 : Int)).toNat (List.take (shlV IntKind.i64 (1 : Int) (IntKind.u64.wrap (d - (1 : Int)))).toNat (List.drop (0 : Nat) ls))).getD j (0 : Int) ∧ (rtR (d - (1 : Int)).toNat (List.take (shlV IntKind.i64 (1 : Int) (IntKind.u64.wrap (d - (1 : Int)))).toNat (List.drop (0 : Nat) ls))).getD j (0 : Int) < (256 : Int)) ∧ (∀ (j : Nat), (0 : Int) ≤ (rtR (d - (1 : Int)).toNat (List.take (ls.length - ((some (shlV IntKind.i64 (1 : Int) (IntKind.u64.wrap (d - (1 : Int))))).getD (0 : Int)).toNat) (List.drop ((some (shlV IntKind.i64 (1 : Int) (IntKind.u64.wrap (d - (1 : Int))))).getD (0 : Int)).toNat ls))).getD j (0 : Int) ∧ (rtR (d - (1 : Int)).toNat (List.take (ls.length - ((some (shlV IntKind.i64 (1 : Int) (IntKind.u64.wrap (d - (1 : Int))))).getD (0 : Int)).toNat) (List.drop ((some (shlV IntKind.i64 (1 : Int) (IntKind.u64.wrap (d - (1 : Int))))).getD (0 : Int)).toNat ls))).getD j (0 : Int) < (256 : Int)) ∧ ∀ (y : Unit), (shaF ([(1 : Int)] ++ rtR (d - (1 : Int)).toNat (List.take (shlV IntKind.i64 (1 : Int) (IntKind.u64.wrap (d - (1 : Int)))).toNat (List.drop (0 : Nat) ls)) ++ rtR (d - (1 : Int)).toNat (List.take (ls.length - ((some (shlV IntKind.i64 (1 : Int) (IntKind.u64.wrap (d - (1 : Int))))).getD (0 : Int)).toNat) (List.drop ((some (shlV IntKind.i64 (1 : Int) (IntKind.u64.wrap (d - (1 : Int))))).getD (0 : Int)).toNat ls)))).length = (32 : Nat) → (shaF ([(1 : Int)] ++ rtR (d - (1 : Int)).toNat (List.take (shlV IntKind.i64 (1 : Int) (IntKind.u64.wrap (d - (1 : Int)))).toNat (List.drop (0 : Nat) ls)) ++ rtR (d - (1 : Int)).toNat (List.take (ls.length - ((some (shlV IntKind.i64 (1 : Int) (IntKind.u64.wrap (d - (1 : Int))))).getD (0 : Int)).toNat) (List.drop ((some (shlV IntKind.i64 (1 : Int) (IntKind.u64.wrap (d - (1 : Int))))).getD (0 : Int)).toNat ls)))).length = (32 : Nat) → ∃ (y : Unit), shaF ([(1 : Int)] ++ rtR (d - (1 : Int)).toNat (List.take (shlV IntKind.i64 (1 : Int) (IntKind.u64.wrap (d - (1 : Int)))).toNat (List.drop (0 : Nat) ls)) ++ rtR (d - (1 : Int)).toNat (List.take (ls.length - ((some (shlV IntKind.i64 (1 : Int) (IntKind.u64.wrap (d - (1 : Int))))).getD (0 : Int)).toNat) (List.drop ((some (shlV IntKind.i64 (1 : Int) (IntKind.u64.wrap (d - (1 : Int))))).getD (0 : Int)).toNat ls))) = rtR d.toNat ls ∧ (32 : Nat) = (32 : Nat) ∧ (rtR d.toNat ls).length = (32 : Nat) ∧ rg (rtR d.toNat ls))))) (by kernel_rfl) ?_⟩
  simp only [imin, imax, decide_eq_true_eq, decide_eq_false_iff_not, Prod.forall, Prod.exists, exists_eq_left', exists_eq_left, exists_and_left, exists_and_right, exists_eq_right, exists_eq, exists_eq', true_and, and_true, forall_const, exists_const, eq_self, Bool.not_eq_true, Bool.not_eq_eq_eq_not, Bool.not_true, Bool.not_false, Value.slice.injEq, Option.getD_some]
  intro hls h0 h1 h16 hn hc hg
  have hL := rtR_length d.toNat hls
  have hG := rtR_rg d.toNat hg
  refine ⟨fun h2 => ?_, fun h2 => ?_⟩
  · subst h2
    refine ⟨fun h3 => ⟨by omega, h3, by omega, by omega, rfl, hL, hG⟩, fun h3 => ⟨?_, hL, hG⟩⟩
    have : ls = [] := List.eq_nil_of_length_eq_zero (by omega)
    subst this; rfl
  · obtain ⟨n, rfl⟩ : ∃ n : Nat, d = n + 1 := ⟨(d - 1).toNat, by omega⟩
    have e1 : ((n : Int) + 1 - 1) = n := by omega
    have e2 : ((n : Int) + 1).toNat = n + 1 := by omega
    have he : shlV .i64 1 (IntKind.u64.wrap (n : Int)) = ((2 ^ n : Nat) : Int) := by rw [wu64 (by omega) (by omega), shl1 (by omega) (by omega), Int.toNat_natCast]; simp
    have eR : rtR (n + 1) ls = if ls.length = 0 then pr2 (rtR n []) (rtR n []) else if ls.length ≤ 2 ^ n then pr2 (rtR n ls) (rtR n []) else pr2 (rtR n (ls.take (2 ^ n))) (rtR n (ls.drop (2 ^ n))) := by rw [rtR]
    have hp : 2 ^ (n + 1) = 2 ^ n * 2 := Nat.pow_succ 2 n
    rw [e2] at hn hL hG
    rw [hp] at hn
    have hq : 0 < 2 ^ n := Nat.pow_pos (by omega)
    simp only [e1, e2, he, Int.toNat_natCast, List.drop_zero]
    generalize 2 ^ n = q at hn eR hq
    refine ⟨by omega, by omega, wrap_nn _, fun h3 => ⟨by omega, by omega, by omega, by omega, by omega, by omega, by omega, (fun a ha => by cases ha), fun _ _ hg0 => ⟨hg0, hg0, fun _ _ => ⟨by rw [eR, if_pos (by omega), pr2], hL, hG⟩⟩⟩, fun h3 => ⟨fun h4 => ?_, fun h4 => ?_⟩⟩
    · exact ⟨by omega, by omega, by omega, by omega, by omega, by omega, hc, hg, fun _ _ hg0 => ⟨by omega, by omega, by omega, by omega, by omega, by omega, by omega, (fun a ha => by cases ha), fun _ _ hg1 => ⟨hg0, hg1, fun _ _ => ⟨by rw [eR, if_neg (by omega), if_pos (by omega), pr2], hL, hG⟩⟩⟩⟩
    · repeat refine ⟨by first | omega | with_reducible assumption | with_reducible rfl, ?_⟩
      have etk : List.take (ls.length - q) (List.drop q ls) = ls.drop q := List.take_of_length_le (by rw [List.length_drop]; omega)
      have l1 : (ls.take q).length = q := by rw [List.length_take]; omega
      have l2 : (ls.drop q).length = ls.length - q := by rw [List.length_drop]
      rw [etk]
      exact ⟨by omega, by omega, fun a ha => hg a (List.mem_of_mem_take ha), fun _ _ hg0 => ⟨by omega, by omega, by omega, by omega, by omega, by omega, fun a ha => hg a (List.mem_of_mem_drop ha), fun _ _ hg1 => ⟨hg0, hg1, fun _ _ => ⟨by rw [eR, if_neg (by omega), if_neg (by omega), pr2], hL, hG⟩⟩⟩⟩
theorem ok_rroot0 : ∀ k, RT_rroot0 k
  | 0 => fun w x _ _ h => by
    obtain ⟨d, ⟨⟨A, ⟨ls, c⟩⟩, ⟨⟩⟩⟩ := x
    exact (by have h1 := h.1; have h2 := h.2.1; omega : False).elim
  | k + 1 => vc_ok (La := la_rroot0) (Ca := ca_rroot0) 300 (fn := Go.Proofs.Try.f88) (by kernel_rfl) (c := cd_rroot0) (by kernel_rfl) (by kernel_rfl) (by kernel_rfl) (by kernel_rfl) (fun ⟨d, ⟨⟨A, ⟨ls, c⟩⟩, ⟨⟩⟩⟩ => vc_rroot0 k (ok_rroot0 k) d A ls c)
noncomputable def con_rroot0 (k : Nat) : Con Xp.P FMp := ⟨88, sg_rroot0, pr_rroot0 k, ps_rroot0, ok_rroot0 k⟩
noncomputable def cd_bad04 : Code := (Go.Proofs.Try.f87.body).getD .skip
def sg_bad04 : List Arg := [.one (.int .i64), .one (.int .i64)]
def pr_bad04 : SgT FMp sg_bad04 → List Prop
  | (d, (n, ())) => (fun (d n : Int) => ([] : List Prop)) d n
def ps_bad04 : SgT FMp sg_bad04 → PS FMp
  | (d, (n, ())) => (fun (d n : Int) => (⟨Unit, fun y => [], fun y => one (.int .i64 (askV d 0 n)), fun y => [], fun y => []⟩ : PS FMp)) d n
def la_bad04 : SgT FMp sg_bad04 → List (Nat × (SS FMp → HA FMp))
  | (d, (n, ())) => (fun (d n : Int) => ([] : List (Nat × (SS FMp → HA FMp)))) d n
def ca_bad04 : SgT FMp sg_bad04 → List (Nat × (SS FMp → HA FMp))
  | (d, (n, ())) => (fun (d n : Int) => ([] : List (Nat × (SS FMp → HA FMp)))) d n
theorem vc_bad04 (d n : Int) : Vc (vc (FM := FMp) Xp 16 [] (la_bad04 (d, (n, ()))) (ca_bad04 (d, (n, ()))) [] [] [.tmp 4] sg_bad04 pr_bad04 ps_bad04 cd_bad04 300 (d, (n, ()))) := by
  refine ⟨Eq.mpr (β := ((decide (d < (0 : Int)) || decide ((16 : Int) < d)) = true → ∃ (y : Unit), (2 : Int) = askV d (0 : Int) n) ∧ ((decide (d < (0 : Int)) || decide ((16 : Int) < d)) = false → (0 : Int) ≤ IntKind.u64.wrap d ∧ (decide (shlV IntKind.i64 (1 : Int) (IntKind.u64.wrap d) < n) = true → ∃ (y : Unit), (4 : Int) = askV d (0 : Int) n) ∧ (decide (shlV IntKind.i64 (1 : Int) (IntKind.u64.wrap d) < n) = false → ∃ (y : Unit), (0 : Int) = askV d (0 : Int) n))) (by kernel_rfl) ?_⟩
  simp only [imin, imax, decide_eq_true_eq, decide_eq_false_iff_not, Prod.forall, Prod.exists, exists_eq_left', exists_eq_left, exists_and_left, exists_and_right, exists_eq_right, exists_eq, exists_eq', true_and, and_true, forall_const, exists_const, eq_self, Bool.not_eq_true, Bool.not_eq_eq_eq_not, Bool.not_true, Bool.not_false, Value.slice.injEq, Option.getD_some]
  have hp : (0 : Int) < 2 ^ d.toNat := Int.pow_pos (by omega)
  refine ⟨fun h => ?_, fun h => ?_⟩
  · simp only [Bool.or_eq_true, decide_eq_true_eq] at h
    rw [askV, if_neg (by omega)]
  · simp only [Bool.or_eq_false_iff, decide_eq_false_iff_not] at h
    have he : shlV .i64 1 (IntKind.u64.wrap d) = 2 ^ d.toNat := by rw [wu64 (by omega) (by omega), shl1 (by omega) (by omega)]
    rw [he]
    refine ⟨wrap_nn _, fun h1 => ?_, fun h1 => ?_⟩
    · rw [askV, if_pos (by omega), if_pos h1]
    · rw [askV, if_pos (by omega), if_neg h1]
noncomputable def con_bad04 : Con Xp.P FMp := ⟨87, sg_bad04, pr_bad04, ps_bad04, vc_ok (La := la_bad04) (Ca := ca_bad04) 300 (fn := Go.Proofs.Try.f87) (by kernel_rfl) (c := cd_bad04) (by kernel_rfl) (by kernel_rfl) (by kernel_rfl) (by kernel_rfl) (fun ⟨d, ⟨n, ⟨⟩⟩⟩ => vc_bad04 d n)⟩
noncomputable def cd_rroot : Code := (Go.Proofs.Try.f63.body).getD .skip
def sg_rroot : List Arg := [.one (.int .i64), .one (.slr 0)]
def pr_rroot : SgT FMp sg_rroot → List Prop
  | (d, ((A, (ls, c)), ())) => (fun (d : Int) (A : Option Addr) (ls : List (List Int)) (c : Nat) => ([ls.length ≤ c, ∀ a ∈ ls, rg a] : List Prop)) d A ls c
def ps_rroot : SgT FMp sg_rroot → PS FMp
  | (d, ((A, (ls, c)), ())) => (fun (d : Int) (A : Option Addr) (ls : List (List Int)) (c : Nat) => (⟨Unit, fun y => [], fun y => .tup [.ag (zz .u8 (rootH d ls) 32), .one (.xv (.int .i64 (askV d 0 ls.length)))], fun y => [], fun y => [(rootH d ls).length = 32]⟩ : PS FMp)) d A ls c
def la_rroot : SgT FMp sg_rroot → List (Nat × (SS FMp → HA FMp))
  | (d, ((A, (ls, c)), ())) => (fun (d : Int) (A : Option Addr) (ls : List (List Int)) (c : Nat) => ([] : List (Nat × (SS FMp → HA FMp)))) d A ls c
def ca_rroot : SgT FMp sg_rroot → List (Nat × (SS FMp → HA FMp))
  | (d, ((A, (ls, c)), ())) => (fun (d : Int) (A : Option Addr) (ls : List (List Int)) (c : Nat) => ([] : List (Nat × (SS FMp → HA FMp)))) d A ls c
theorem vc_rroot (d : Int) (A : Option Addr) (ls : List (List Int)) (c : Nat) : Vc (vc (FM := FMp) Xp 18 [con_rroot0 17, con_bad04] (la_rroot (d, ((A, (ls, c)), ()))) (ca_rroot (d, ((A, (ls, c)), ()))) [] [] [.cell 4 40, .tmp 5] sg_rroot pr_rroot ps_rroot cd_rroot 300 (d, ((A, (ls, c)), ()))) := by
  refine ⟨Eq.mpr (β := (∀ (a : List Int), a ∈ ls → a.length = (32 : Nat)) → ls.length ≤ c → (∀ (a : List Int), a ∈ ls → rg a) → ∀ (b : Nat) (y : Unit), ((!decide (askV d (0 : Int) (↑ls.length : Int) = (0 : Int))) = true → ∃ (y : Unit), List.replicate (32 : Nat) (0 : Int) = rootH d ls ∧ (32 : Nat) = (32 : Nat) ∧ askV d (0 : Int) (↑ls.length : Int) = askV d (0 : Int) (↑ls.length : Int) ∧ (rootH d ls).length = (32 : Nat)) ∧ ((!decide (askV d (0 : Int) (↑ls.length : Int) = (0 : Int))) = false → ls.length = ls.length ∧ (0 : Int) ≤ d ∧ d < (17 : Int) ∧ d ≤ (16 : Int) ∧ ls.length ≤ (2 : Nat) ^ d.toNat ∧ ls.length ≤ c ∧ (∀ (a : List Int), a ∈ ls → rg a) ∧ ∀ (y : Unit), (rtR d.toNat ls).length = (32 : Nat) → (rtR d.toNat ls).length = (32 : Nat) → rg (rtR d.toNat ls) → ∃ (y : Unit), rtR d.toNat ls = rootH d ls ∧ (32 : Nat) = (32 : Nat) ∧ (0 : Int) = askV d (0 : Int) (↑ls.length : Int) ∧ (rootH d ls).length = (32 : Nat))) (by kernel_rfl) ?_⟩
  simp only [imin, imax, decide_eq_true_eq, decide_eq_false_iff_not, Prod.forall, Prod.exists, exists_eq_left', exists_eq_left, exists_and_left, exists_and_right, exists_eq_right, exists_eq, exists_eq', true_and, and_true, forall_const, exists_const, eq_self, Bool.not_eq_true, Bool.not_eq_eq_eq_not, Bool.not_true, Bool.not_false, Value.slice.injEq, Option.getD_some]
  intro hls hc hg
  refine ⟨fun h => ⟨by rw [rootH, if_neg h], by rw [rootH, if_neg h]; simp⟩, fun h => ?_⟩
  obtain ⟨hd0, hd1, hn, hn2⟩ := ask_root h
  have hn3 : ls.length ≤ 2 ^ d.toNat := by
    have e : ((2 ^ d.toNat : Nat) : Int) = (2 : Int) ^ d.toNat := by simp
    omega
  have e : rtR d.toNat ls = rootH d ls := by rw [rootH, if_pos h, rt_lvl _ _ hn3]
  exact ⟨hd0, by omega, hd1, hn3, hc, hg, fun h1 _ _ => ⟨e, h.symm, by rw [← e]; exact h1⟩⟩
noncomputable def con_rroot : Con Xp.P FMp := ⟨63, sg_rroot, pr_rroot, ps_rroot, vc_ok (La := la_rroot) (Ca := ca_rroot) 300 (fn := Go.Proofs.Try.f63) (by kernel_rfl) (c := cd_rroot) (by kernel_rfl) (by kernel_rfl) (by kernel_rfl) (by kernel_rfl) (fun ⟨d, ⟨⟨A, ⟨ls, c⟩⟩, ⟨⟩⟩⟩ => vc_rroot d A ls c)⟩
noncomputable def cd_rproof : Code := (Go.Proofs.Try.f64.body).getD .skip
def sg_rproof : List Arg := [.one (.int .i64), .one (.slr 0), .one (.int .i64)]
def pr_rproof : SgT FMp sg_rproof → List Prop
  | (d, ((A, (ls, c)), (i, ()))) => (fun (d : Int) (A : Option Addr) (ls : List (List Int)) (c : Nat) (i : Int) => ([ls.length ≤ c, ∀ a ∈ ls, rg a] : List Prop)) d A ls c i
def ps_rproof : SgT FMp sg_rproof → PS FMp
  | (d, ((A, (ls, c)), (i, ()))) => (fun (d : Int) (A : Option Addr) (ls : List (List Int)) (c : Nat) (i : Int) => (⟨(Option Addr) × Nat, fun y => [.ad y.1], fun y => .tup [.one (.sc 0 0 (prfL d ls i).length y.2 false), .one (.xv (.int .i64 (askV d i ls.length)))], fun y => [.sl 0 ((prfL d ls i).length) y.2 [.f 0 ((prfL d ls i)) ((prfL d ls i).length)] 40 32], fun y => [(prfL d ls i).length ≤ y.2, ∀ a ∈ prfL d ls i, a.length = 32]⟩ : PS FMp)) d A ls c i
def la_rproof : SgT FMp sg_rproof → List (Nat × (SS FMp → HA FMp))
  | (d, ((A, (ls, c)), (i, ()))) => (fun (d : Int) (A : Option Addr) (ls : List (List Int)) (c : Nat) (i : Int) => ([(8, fun S => ⟨Int × (List (List Int)) × (Option Addr) × Nat, fun y => [.ad y.2.2.1], fun n y => [(10, some (one (.int .i64 (y.1)))), (9, some (.v (.one (.sc n 0 y.2.1.length y.2.2.2 false))))], fun n y => (.sl n (y.2.1.length) y.2.2.2 [.f 0 (y.2.1) (y.2.1.length)] 40 32) :: S.m, fun y => [0 ≤ y.1, y.1 ≤ d, y.2.1 = prfN ls i.toNat y.1.toNat, y.2.1.length ≤ y.2.2.2], fun y => (d - y.1).toNat⟩)] : List (Nat × (SS FMp → HA FMp)))) d A ls c i
def ca_rproof : SgT FMp sg_rproof → List (Nat × (SS FMp → HA FMp))
  | (d, ((A, (ls, c)), (i, ()))) => (fun (d : Int) (A : Option Addr) (ls : List (List Int)) (c : Nat) (i : Int) => ([] : List (Nat × (SS FMp → HA FMp)))) d A ls c i
theorem vc_rproof (d : Int) (A : Option Addr) (ls : List (List Int)) (c : Nat) (i : Int) : Vc (vc (FM := FMp) Xp 64 [con_rroot0 17, con_bad04] (la_rproof (d, ((A, (ls, c)), (i, ())))) (ca_rproof (d, ((A, (ls, c)), (i, ())))) [] [89] [.tmp 6, .tmp 7] sg_rproof pr_rproof ps_rproof cd_rproof 300 (d, ((A, (ls, c)), (i, ())))) := by
  refine ⟨Eq.mpr (β := (∀ (a : List Int), a ∈ ls → a.length = (32 : Nat)) → ls.length ≤ c → (∀ (a : List Int), a ∈ ls → rg a) → ((decide (d < (0 : Int)) || decide ((16 : Int) < d) || decide (i < (0 : Int))) = false → (0 : Int) ≤ IntKind.u64.wrap d) ∧ ((decide (d < (0 : Int)) || decide ((16 : Int) < d) || decide (i < (0 : Int)) || decide (shlV IntKind.i64 (1 : Int) (IntKind.u64.wrap d) ≤ i)) = true → ∃ (y : Option Addr × Nat), Value.slice none (0 : Nat) (0 : Nat) = Value.slice y.1 (prfL d ls i).length y.2 ∧ (2 : Int) = askV d i (↑ls.length : Int) ∧ y.1 = none ∧ (prfL d ls i).length = (0 : Nat) ∧ y.2 = (0 : Nat) ∧ prfL d ls i = [] ∧ (prfL d ls i).length = (0 : Nat) ∧ (prfL d ls i).length ≤ y.2 ∧ ∀ (a : List Int), a ∈ prfL d ls i → a.length = (32 : Nat)) ∧ ((decide (d < (0 : Int)) || decide ((16 : Int) < d) || decide (i < (0 : Int)) || decide (shlV IntKind.i64 (1 : Int) (IntKind.u64.wrap d) ≤ i)) = false → ∀ (y : Unit), ((!decide (askV d (0 : Int) (↑ls.length : Int) = (0 : Int))) = true → ∃ (y : Option Addr × Nat), Value.slice none (0 : Nat) (0 : Nat) = Value.slice y.1 (prfL d ls i).length y.2 ∧ askV d (0 : Int) (↑ls.length : Int) = askV d i (↑ls.length : Int) ∧ y.1 = none ∧ (prfL d ls i).length = (0 : Nat) ∧ y.2 = (0 : Nat) ∧ prfL d ls i = [] ∧ (prfL d ls i).length = (0 : Nat) ∧ (prfL d ls i).length ≤ y.2 ∧ ∀ (a : List Int), a ∈ prfL d ls i → a.length = (32 : Nat)) ∧ ((!decide (askV d (0 : Int) (↑ls.length : Int) = (0 : Int))) = false → (∃ (y : Int × List (List Int) × Option Addr × Nat), (0 : Int) = y.1 ∧ Value.slice none (0 : Nat) (0 : Nat) = Value.slice y.snd.2.1 y.2.1.length y.snd.2.2 ∧ y.snd.2.1 = none ∧ y.2.1.length = (0 : Nat) ∧ y.snd.2.2 = (0 : Nat) ∧ y.2.1 = [] ∧ y.2.1.length = (0 : Nat) ∧ (0 : Int) ≤ y.1 ∧ y.1 ≤ d ∧ y.2.1 = prfN ls i.toNat y.1.toNat ∧ y.2.1.length ≤ y.snd.2.2) ∧ ∀ (y : Int × List (List Int) × Option Addr × Nat), y.2.1.length = y.2.1.length → (∀ (a : List Int), a ∈ y.2.1 → a.length = (32 : Nat)) → (0 : Int) ≤ y.1 → y.1 ≤ d → y.2.1 = prfN ls i.toNat y.1.toNat → y.2.1.length ≤ y.snd.2.2 → (decide (y.1 < d) = true → (0 : Int) ≤ IntKind.u64.wrap y.1 ∧ (0 : Int) ≤ i ∧ i ≤ (9223372036854775807 : Int) ∧ (0 : Int) < shlV IntKind.i64 (1 : Int) (IntKind.u64.wrap y.1) ∧ (-9223372036854775808 : Int) ≤ bxr IntKind.i64 (i / shlV IntKind.i64 (1 : Int) (IntKind.u64.wrap y.1)) (1 : Int) * shlV IntKind.i64 (1 : Int) (IntKind.u64.wrap y.1) ∧ bxr IntKind.i64 (i / shlV IntKind.i64 (1 : Int) (IntKind.u64.wrap y.1)) (1 : Int) * shlV IntKind.i64 (1 : Int) (IntKind.u64.wrap y.1) ≤ (9223372036854775807 : Int) ∧ (-9223372036854775808 : Int) ≤ bxr IntKind.i64 (i / shlV IntKind.i64 (1 : Int) (IntKind.u64.wrap y.1)) (1 : Int) + (1 : Int) ∧ bxr IntKind.i64 (i / shlV IntKind.i64 (1 : Int) (IntKind.u64.wrap y.1)) (1 : Int) + (1 : Int) ≤ (9223372036854775807 : Int) ∧ (-9223372036854775808 : Int) ≤ (bxr IntKind.i64 (i / shlV IntKind.i64 (1 : Int) (IntKind.u64.wrap y.1)) (1 : Int) + (1 : Int)) * shlV IntKind.i64 (1 : Int) (IntKind.u64.wrap y.1) ∧ (bxr IntKind.i64 (i / shlV IntKind.i64 (1 : Int) (IntKind.u64.wrap y.1)) (1 : Int) + (1 : Int)) * shlV IntKind.i64 (1 : Int) (IntKind.u64.wrap y.1) ≤ (9223372036854775807 : Int) ∧ (decide ((↑ls.length : Int) ≤ bxr IntKind.i64 (i / shlV IntKind.i64 (1 : Int) (IntKind.u64.wrap y.1)) (1 : Int) * shlV IntKind.i64 (1 : Int) (IntKind.u64.wrap y.1)) = true → (0 : Int) ≤ y.1 ∧ y.1 < (17 : Int) ∧ y.1 ≤ (16 : Int) ∧ (0 : Nat) ≤ (2 : Nat) ^ y.1.toNat ∧ (0 : Nat) ≤ (0 : Nat) ∧ (∀ (a : List Int), a ∈ [] → rg a) ∧ ∀ (y_1 : Unit), (rtR y.1.toNat []).length = (32 : Nat) → (rtR y.1.toNat []).length = (32 : Nat) → rg (rtR y.1.toNat []) → ∀ (b : Nat), y.2.1.length = y.2.1.length ∧ y.snd.2.2 = y.snd.2.2 ∧ (1 : Nat) = (1 : Nat) ∧ (y.2.1.length + (1 : Nat)) * Proofs.Try.prog.types[(40 : Nat)].bytes ≤ (140737488355328 : Nat) ∧ ∀ (A : Option Addr) (q : Nat), y.2.1.length + (1 : Nat) ≤ q → (-9223372036854775808 : Int) ≤ y.1 + (1 : Int) ∧ y.1 + (1 : Int) ≤ (9223372036854775807 : Int) ∧ ∃ (y_2 : Int × List (List Int) × Option Addr × Nat), y.1 + (1 : Int) = y_2.1 ∧ A = y_2.snd.2.1 ∧ y.2.1.length + (1 : Nat) = y_2.2.1.length ∧ q = y_2.snd.2.2 ∧ A = y_2.snd.2.1 ∧ y.2.1.length + (1 : Nat) = y_2.2.1.length ∧ q = y_2.snd.2.2 ∧ y.2.1 ++ [rtR y.1.toNat []] = y_2.2.1 ∧ y.2.1.length + (1 : Nat) = y_2.2.1.length ∧ (0 : Int) ≤ y_2.1 ∧ y_2.1 ≤ d ∧ y_2.2.1 = prfN ls i.toNat y_2.1.toNat ∧ y_2.2.1.length ≤ y_2.snd.2.2 ∧ (d - y_2.1).toNat < (d - y.1).toNat) ∧ (decide ((↑ls.length : Int) ≤ bxr IntKind.i64 (i / shlV IntKind.i64 (1 : Int) (IntKind.u64.wrap y.1)) (1 : Int) * shlV IntKind.i64 (1 : Int) (IntKind.u64.wrap y.1)) = false → (0 : Int) ≤ (some (bxr IntKind.i64 (i / shlV IntKind.i64 (1 : Int) (IntKind.u64.wrap y.1)) (1 : Int) * shlV IntKind.i64 (1 : Int) (IntKind.u64.wrap y.1))).getD (0 : Int) ∧ ((some (bxr IntKind.i64 (i / shlV IntKind.i64 (1 : Int) (IntKind.u64.wrap y.1)) (1 : Int) * shlV IntKind.i64 (1 : Int) (IntKind.u64.wrap y.1))).getD (0 : Int) ≤ if (↑ls.length : Int) < (bxr IntKind.i64 (i / shlV IntKind.i64 (1 : Int) (IntKind.u64.wrap y.1)) (1 : Int) + (1 : Int)) * shlV IntKind.i64 (1 : Int) (IntKind.u64.wrap y.1) then (↑ls.length : Int) else (bxr IntKind.i64 (i / shlV IntKind.i64 (1 : Int) (IntKind.u64.wrap y.1)) (1 : Int) + (1 : Int)) * shlV IntKind.i64 (1 : Int) (IntKind.u64.wrap y.1)) ∧ (if (↑ls.length : Int) < (bxr IntKind.i64 (i / shlV IntKind.i64 (1 : Int) (IntKind.u64.wrap y.1)) (1 : Int) + (1 : Int)) * shlV IntKind.i64 (1 : Int) (IntKind.u64.wrap y.1) then (↑ls.length : Int) else (bxr IntKind.i64 (i / shlV IntKind.i64 (1 : Int) (IntKind.u64.wrap y.1)) (1 : Int) + (1 : Int)) * shlV IntKind.i64 (1 : Int) (IntKind.u64.wrap y.1)) ≤ (↑c : Int) ∧ (if (↑ls.length : Int) < (bxr IntKind.i64 (i / shlV IntKind.i64 (1 : Int) (IntKind.u64.wrap y.1)) (1 : Int) + (1 : Int)) * shlV IntKind.i64 (1 : Int) (IntKind.u64.wrap y.1) then (↑ls.length : Int) else (bxr IntKind.i64 (i / shlV IntKind.i64 (1 : Int) (IntKind.u64.wrap y.1)) (1 : Int) + (1 : Int)) * shlV IntKind.i64 (1 : Int) (IntKind.u64.wrap y.1)).toNat - ((some (bxr IntKind.i64 (i / shlV IntKind.i64 (1 : Int) (IntKind.u64.wrap y.1)) (1 : Int) * shlV IntKind.i64 (1 : Int) (IntKind.u64.wrap y.1))).getD (0 : Int)).toNat = (if (↑ls.length : Int) < (bxr IntKind.i64 (i / shlV IntKind.i64 (1 : Int) (IntKind.u64.wrap y.1)) (1 : Int) + (1 : Int)) * shlV IntKind.i64 (1 : Int) (IntKind.u64.wrap y.1) then (↑ls.length : Int) else (bxr IntKind.i64 (i / shlV IntKind.i64 (1 : Int) (IntKind.u64.wrap y.1)) (1 : Int) + (1 : Int)) * shlV IntKind.i64 (1 : Int) (IntKind.u64.wrap y.1)).toNat - ((some (bxr IntKind.i64 (i / shlV IntKind.i64 (1 : Int) (IntKind.u64.wrap y.1)) (1 : Int) * shlV IntKind.i64 (1 : Int) (IntKind.u64.wrap y.1))).getD (0 : Int)).toNat ∧ ((some (bxr IntKind.i64 (i / shlV IntKind.i64 (1 : Int) (IntKind.u64.wrap y.1)) (1 : Int) * shlV IntKind.i64 (1 : Int) (IntKind.u64.wrap y.1))).getD (0 : Int)).toNat + ((if (↑ls.length : Int) < (bxr IntKind.i64 (i / shlV IntKind.i64 (1 : Int) (IntKind.u64.wrap y.1)) (1 : Int) + (1 : Int)) * shlV IntKind.i64 (1 : Int) (IntKind.u64.wrap y.1) then (↑ls.length : Int) else (bxr IntKind.i64 (i / shlV IntKind.i64 (1 : Int) (IntKind.u64.wrap y.1)) (1 : Int) + (1 : Int)) * shlV IntKind.i64 (1 : Int) (IntKind.u64.wrap y.1)).toNat - ((some (bxr IntKind.i64 (i / shlV IntKind.i64 (1 : Int) (IntKind.u64.wrap y.1)) (1 : Int) * shlV IntKind.i64 (1 : Int) (IntKind.u64.wrap y.1))).getD (0 : Int)).toNat) ≤ ls.length ∧ (0 : Int) ≤ y.1 ∧ y.1 < (17 : Int) ∧ y.1 ≤ (16 : Int) ∧ (List.take ((if (↑ls.length : Int) < (bxr IntKind.i64 (i / shlV IntKind.i64 (1 : Int) (IntKind.u64.wrap y.1)) (1 : Int) + (1 : Int)) * shlV IntKind.i64 (1 : Int) (IntKind.u64.wrap y.1) then (↑ls.length : Int) else (bxr IntKind.i64 (i / shlV IntKind.i64 (1 : Int) (IntKind.u64.wrap y.1)) (1 : Int) + (1 : Int)) * shlV IntKind.i64 (1 : Int) (IntKind.u64.wrap y.1)).toNat - ((some (bxr IntKind.i64 (i / shlV IntKind.i64 (1 : Int) (IntKind.u64.wrap y.1)) (1 : Int) * shlV IntKind.i64 (1 : Int) (IntKind.u64.wrap y.1))).getD (0 : Int)).toNat) (List.drop ((some (bxr IntKind.i64 (i / shlV IntKind.i64 (1 : Int) (IntKind.u64.wrap y.1)) (1 : Int) * shlV IntKind.i64 (1 : Int) (IntKind.u64.wrap y.1))).getD (0 : Int)).toNat ls)).length ≤ (2 : Nat) ^ y.1.toNat ∧ (List.take ((if (↑ls.length : Int) < (bxr IntKind.i64 (i / shlV IntKind.i64 (1 : Int) (IntKind.u64.wrap y.1)) (1 : Int) + (1 : Int)) * shlV IntKind.i64 (1 : Int) (IntKind.u64.wrap y.1) then (↑ls.length : Int) else (bxr IntKind.i64 (i / shlV IntKind.i64 (1 : Int) (IntKind.u64.wrap y.1)) (1 : Int) + (1 : Int)) * shlV IntKind.i64 (1 : Int) (IntKind.u64.wrap y.1)).toNat - ((some (bxr IntKind.i64 (i / shlV IntKind.i64 (1 : Int) (IntKind.u64.wrap y.1)) (1 : Int) * shlV IntKind.i64 (1 : Int) (IntKind.u64.wrap y.1))).getD (0 : Int)).toNat) (List.drop ((some (bxr IntKind.i64 (i / shlV IntKind.i64 (1 : Int) (IntKind.u64.wrap y.1)) (1 : Int) * shlV IntKind.i64 (1 : Int) (IntKind.u64.wrap y.1))).getD (0 : Int)).toNat ls)).length ≤ c - ((some (bxr IntKind.i64 (i / shlV IntKind.i64 (1 : Int) (IntKind.u64.wrap y.1)) (1 : Int) * shlV IntKind.i64 (1 : Int) (IntKind.u64.wrap y.1))).getD (0 : Int)).toNat ∧ (∀ (a : List Int), a ∈ List.take ((if (↑ls.length : Int) < (bxr IntKind.i64 (i / shlV IntKind.i64 (1 : Int) (IntKind.u64.wrap y.1)) (1 : Int) + (1 : Int)) * shlV IntKind.i64 (1 : Int) (IntKind.u64.wrap y.1) then (↑ls.length : Int) else (bxr IntKind.i64 (i / shlV IntKind.i64 (1 : Int) (IntKind.u64.wrap y.1)) (1 : Int) + (1 : Int)) * shlV IntKind.i64 (1 : Int) (IntKind.u64.wrap y.1)).toNat - ((some (bxr IntKind.i64 (i / shlV IntKind.i64 (1 : Int) (IntKind.u64.wrap y.1)) (1 : Int) * shlV IntKind.i64 (1 : Int) (IntKind.u64.wrap y.1))).getD (0 : Int)).toNat) (List.drop ((some (bxr IntKind.i64 (i / shlV IntKind.i64 (1 : Int) (IntKind.u64.wrap y.1)) (1 : Int) * shlV IntKind.i64 (1 : Int) (IntKind.u64.wrap y.1))).getD (0 : Int)).toNat ls) → rg a) ∧ ∀ (y_1 : Unit), (rtR y.1.toNat (List.take ((if (↑ls.length : Int) < (bxr IntKind.i64 (i / shlV IntKind.i64 (1 : Int) (IntKind.u64.wrap y.1)) (1 : Int) + (1 : Int)) * shlV IntKind.i64 (1 : Int) (IntKind.u64.wrap y.1) then (↑ls.length : Int) else (bxr IntKind.i64 (i / shlV IntKind.i64 (1 : Int) (IntKind.u64.wrap y.1)) (1 : Int) + (1 : Int)) * shlV IntKind.i64 (1 : Int) (IntKind.u64.wrap y.1)).toNat - ((some (bxr IntKind.i64 (i / shlV IntKind.i64 (1 : Int) (IntKind.u64.wrap y.1)) (1 : Int) * shlV IntKind.i64 (1 : Int) (IntKind.u64.wrap y.1))).getD (0 : Int)).toNat) (List.drop ((some (bxr IntKind.i64 (i / shlV IntKind.i64 (1 : Int) (IntKind.u64.wrap y.1)) (1 : Int) * shlV IntKind.i64 (1 : Int) (IntKind.u64.wrap y.1))).getD (0 : Int)).toNat ls))).length = (32 : Nat) → (rtR y.1.toNat (List.take ((if (↑ls.length : Int) < (bxr IntKind.i64 (i / shlV IntKind.i64 (1 : Int) (IntKind.u64.wrap y.1)) (1 : Int) + (1 : Int)) * shlV IntKind.i64 (1 : Int) (IntKind.u64.wrap y.1) then (↑ls.length : Int) else (bxr IntKind.i64 (i / shlV IntKind.i64 (1 : Int) (IntKind.u64.wrap y.1)) (1 : Int) + (1 : Int)) * shlV IntKind.i64 (1 : Int) (IntKind.u64.wrap y.1)).toNat - ((some (bxr IntKind.i64 (i / shlV IntKind.i64 (1 : Int) (IntKind.u64.wrap y.1)) (1 : Int) * shlV IntKind.i64 (1 : Int) (IntKind.u64.wrap y.1))).getD (0 : Int)).toNat) (List.drop ((some (bxr IntKind.i64 (i / shlV IntKind.i64 (1 : Int) (IntKind.u64.wrap y.1)) (1 : Int) * shlV IntKind.i64 (1 : Int) (IntKind.u64.wrap y.1))).getD (0 : Int)).toNat ls))).length = (32 : Nat) → rg (rtR y.1.toNat (List.take ((if (↑ls.length : Int) < (bxr IntKind.i64 (i / shlV IntKind.i64 (1 : Int) (IntKind.u64.wrap y.1)) (1 : Int) + (1 : Int)) * shlV IntKind.i64 (1 : Int) (IntKind.u64.wrap y.1) then (↑ls.length : Int) else (bxr IntKind.i64 (i / shlV IntKind.i64 (1 : Int) (IntKind.u64.wrap y.1)) (1 : Int) + (1 : Int)) * shlV IntKind.i64 (1 : Int) (IntKind.u64.wrap y.1)).toNat - ((some (bxr IntKind.i64 (i / shlV IntKind.i64 (1 : Int) (IntKind.u64.wrap y.1)) (1 : Int) * shlV IntKind.i64 (1 : Int) (IntKind.u64.wrap y.1))).getD (0 : Int)).toNat) (List.drop ((some (bxr IntKind.i64 (i / shlV IntKind.i64 (1 : Int) (IntKind.u64.wrap y.1)) (1 : Int) * shlV IntKind.i64 (1 : Int) (IntKind.u64.wrap y.1))).getD (0 : Int)).toNat ls))) → ∀ (b : Nat), y.2.1.length = y.2.1.length ∧ y.snd.2.2 = y.snd.2.2 ∧ (1 : Nat) = (1 : Nat) ∧ (y.2.1.length + (1 : Nat)) * Proofs.Try.prog.types[(40 : Nat)].bytes ≤ (140737488355328 : Nat) ∧ ∀ (A : Option Addr) (q : Nat), y.2.1.length + (1 : Nat) ≤ q → (-9223372036854775808 : Int) ≤ y.1 + (1 : Int) ∧ y.1 + (1 : Int) ≤ (9223372036854775807 : Int) ∧ ∃ (y_2 : Int × List (List Int) × Option Addr × Nat), y.1 + (1 : Int) = y_2.1 ∧ A = y_2.snd.2.1 ∧ y.2.1.length + (1 : Nat) = y_2.2.1.length ∧ q = y_2.snd.2.2 ∧ A = y_2.snd.2.1 ∧ y.2.1.length + (1 : Nat) = y_2.2.1.length ∧ q = y_2.snd.2.2 ∧ y.2.1 ++ [rtR y.1.toNat (List.take ((if (↑ls.length : Int) < (bxr IntKind.i64 (i / shlV IntKind.i64 (1 : Int) (IntKind.u64.wrap y.1)) (1 : Int) + (1 : Int)) * shlV IntKind.i64 (1 : Int) (IntKind.u64.wrap y.1) then (↑ls.length : Int) else (bxr IntKind.i64 (i / shlV IntKind.i64 (1 : Int) (IntKind.u64.wrap y.1)) (1 : Int) + (1 : Int)) * shlV IntKind.i64 (1 : Int) (IntKind.u64.wrap y.1)).toNat - ((some (bxr IntKind.i64 (i / shlV IntKind.i64 (1 : Int) (IntKind.u64.wrap y.1)) (1 : Int) * shlV IntKind.i64 (1 : Int) (IntKind.u64.wrap y.1))).getD (0 : Int)).toNat) (List.drop ((some (bxr IntKind.i64 (i / shlV IntKind.i64 (1 : Int) (IntKind.u64.wrap y.1)) (1 : Int) * shlV IntKind.i64 (1 : Int) (IntKind.u64.wrap y.1))).getD (0 : Int)).toNat ls))] = y_2.2.1 ∧ y.2.1.length + (1 : Nat) = y_2.2.1.length ∧ (0 : Int) ≤ y_2.1 ∧ y_2.1 ≤ d ∧ y_2.2.1 = prfN ls i.toNat y_2.1.toNat ∧ y_2.2.1.length ≤ y_2.snd.2.2 ∧ (d - y_2.1).toNat < (d - y.1).toNat)) ∧ (decide (y.1 < d) = false → ∃ (y_1 : Option Addr × Nat), y.snd.2.1 = y_1.1 ∧ y.2.1.length = (prfL d ls i).length ∧ y.snd.2.2 = y_1.2 ∧ (0 : Int) = askV d i (↑ls.length : Int) ∧ y.snd.2.1 = y_1.1 ∧ y.2.1.length = (prfL d ls i).length ∧ y.snd.2.2 = y_1.2 ∧ y.2.1 = prfL d ls i ∧ y.2.1.length = (prfL d ls i).length ∧ (prfL d ls i).length ≤ y_1.2 ∧ ∀ (a : List Int), a ∈ prfL d ls i → a.length = (32 : Nat))))) (by kernel_rfl) ?_⟩
  simp only [imin, imax, decide_eq_true_eq, decide_eq_false_iff_not, Prod.forall, Prod.exists, exists_eq_left', exists_eq_left, exists_and_left, exists_and_right, exists_eq_right, exists_eq, exists_eq', true_and, and_true, forall_const, exists_const, eq_self, Bool.not_eq_true, Bool.not_eq_eq_eq_not, Bool.not_true, Bool.not_false, Value.slice.injEq, Option.getD_some]
  intro hls hc hg
  have hp : ∀ n : Nat, (0 : Int) < 2 ^ n := fun n => Int.pow_pos (by omega)
  refine ⟨fun _ => wrap_nn _, fun h => ?_, fun h => ?_⟩
  · have hn : askV d i ls.length = 2 := by
      simp only [Bool.or_eq_true, decide_eq_true_eq] at h
      rw [askV, if_neg]
      intro ⟨a, b, c, e⟩
      rw [wu64 (by omega) (by omega), shl1 (by omega) (by omega)] at h
      omega
    have e : prfL d ls i = [] := by rw [prfL, if_neg (by omega)]
    rw [e, hn]
    exact ⟨none, 0, ⟨rfl, rfl, rfl⟩, rfl, rfl, rfl, rfl, rfl, rfl, Nat.le_refl _, fun a ha => by cases ha⟩
  · simp only [Bool.or_eq_false_iff, decide_eq_false_iff_not] at h
    have hi0 : 0 ≤ i := by omega
    have h16 := pow16 (n := d.toNat) (by omega)
    have hi1 : i < 2 ^ d.toNat := by
      have := h.2
      rw [wu64 (by omega) (by omega), shl1 (by omega) (by omega)] at this
      omega
    have ea : askV d 0 ls.length = askV d i ls.length := by
      have := hp d.toNat
      rw [askV, askV, if_pos (show 0 ≤ d ∧ d ≤ 16 ∧ (0 : Int) ≤ 0 ∧ (0 : Int) < 2 ^ d.toNat from ⟨by omega, by omega, by omega, this⟩), if_pos (show 0 ≤ d ∧ d ≤ 16 ∧ 0 ≤ i ∧ i < 2 ^ d.toNat from ⟨by omega, by omega, hi0, hi1⟩)]
    rw [ea]
    refine ⟨fun h1 => ⟨none, 0, by rw [prfL, if_neg h1]; exact ⟨⟨rfl, rfl, rfl⟩, rfl, rfl, rfl, rfl, rfl, rfl, Nat.le_refl _, fun a ha => by cases ha⟩⟩, fun h1 => ⟨⟨[], none, 0, ⟨rfl, rfl, rfl⟩, rfl, rfl, rfl, rfl, rfl, by omega, by omega, by simp [prfN], by simp⟩, fun t p cp hpa h2 h3 h4 h5 => ⟨fun h6 => ?_, fun h6 => ?_⟩⟩⟩
    · obtain ⟨n, rfl⟩ : ∃ n : Nat, t = n := ⟨t.toNat, by omega⟩
      have he : shlV .i64 1 (IntKind.u64.wrap (n : Int)) = ((2 ^ n : Nat) : Int) := by rw [wu64 (by omega) (by omega), shl1 (by omega) (by omega), Int.toNat_natCast]; simp
      have hp5 := prfN_succ ls i.toNat n
      rw [sib_lvl] at hp5
      have hm := Nat.div_le_self i.toNat (2 ^ n)
      have ho : bxr .i64 (i / ((2 ^ n : Nat) : Int)) 1 = ((i.toNat / 2 ^ n ^^^ 1 : Nat) : Int) := by
        have e : i / ((2 ^ n : Nat) : Int) = ((i.toNat / 2 ^ n : Nat) : Int) := by rw [Int.natCast_ediv, Int.toNat_of_nonneg hi0]
        rw [e]
        generalize i.toNat / 2 ^ n = m at hm ⊢
        rw [xor1 (by omega) (by omega), Int.toNat_natCast]
      have hob : i.toNat / 2 ^ n ^^^ 1 < 2 ^ 16 := Nat.xor_lt_two_pow (by omega) (by omega)
      have hqb : 2 ^ n ≤ 2 ^ 16 := Nat.pow_le_pow_right (by omega) (by omega)
      have hq0 : 0 < 2 ^ n := Nat.pow_pos (by omega)
      rw [Int.toNat_natCast] at h4
      have hpl : p.length = n := by rw [h4, prfN_length]
      simp only [he, ho, Int.toNat_natCast]
      generalize i.toNat / 2 ^ n ^^^ 1 = o at hp5 hob ⊢
      generalize 2 ^ n = q at hp5 hqb hq0 ⊢
      have hX : o * q ≤ 2 ^ 16 * 2 ^ 16 := Nat.mul_le_mul (by omega) hqb
      have c1 : (o : Int) * (q : Int) = ((o * q : Nat) : Int) := by simp
      have c2 : ((o : Int) + 1) * (q : Int) = ((o * q + q : Nat) : Int) := by rw [Int.add_mul, Int.one_mul, c1]; simp
      simp only [c1, c2, Int.toNat_natCast]
      generalize o * q = X at hp5 hX ⊢
      refine ⟨wrap_nn _, by omega, by omega, by omega, by omega, by omega, by omega, by omega, by omega, by omega, fun h7 => ⟨by omega, by omega, by omega, by omega, by omega, (fun a ha => by cases ha), fun _ _ _ => ⟨by rw [BY32]; omega, fun q1 hq1 => ⟨by omega, by omega, p ++ [rtR n []], by simp, by simp, rfl, by simp, by omega, by omega, ?_, by simp; omega, by omega⟩⟩⟩, fun h7 => ?_⟩
      · rw [show ((n : Int) + 1).toNat = n + 1 by omega, hp5, List.drop_eq_nil_of_le (by omega), List.take_nil, h4]
      · have eM : ∃ M : Nat, (if (ls.length : Int) < ((X + q : Nat) : Int) then (ls.length : Int) else ((X + q : Nat) : Int)) = (M : Int) ∧ X ≤ M ∧ M ≤ ls.length ∧ (ls.drop X).take (M - X) = (ls.drop X).take q := by
          by_cases hl : (ls.length : Int) < ((X + q : Nat) : Int)
          · rw [if_pos hl]
            exact ⟨ls.length, rfl, by omega, by omega, by rw [List.take_of_length_le (by rw [List.length_drop]; omega), List.take_of_length_le (by rw [List.length_drop]; omega)]⟩
          · rw [if_neg hl]
            exact ⟨X + q, rfl, by omega, by omega, by rw [Nat.add_sub_cancel_left]⟩
        obtain ⟨M, e1, e2, e3, e4⟩ := eM
        simp only [e1, Int.toNat_natCast, e4]
        have hl4 : ((ls.drop X).take q).length ≤ q := by rw [List.length_take]; omega
        have hl5 : ((ls.drop X).take q).length = M - X := by rw [← e4, List.length_take, List.length_drop]; omega
        repeat refine ⟨by first | omega | with_reducible assumption | with_reducible rfl, ?_⟩
        exact ⟨fun a ha => hg a (List.mem_of_mem_drop (List.mem_of_mem_take ha)), fun _ _ _ => ⟨by rw [BY32]; omega, fun q1 hq1 => ⟨by omega, by omega, p ++ [rtR n (List.take q (List.drop X ls))], by simp, by simp, rfl, by simp, by omega, by omega, by rw [show ((n : Int) + 1).toNat = n + 1 by omega, hp5, h4], by simp; omega, by omega⟩⟩⟩
    · have e : prfL d ls i = p := by rw [prfL, if_pos h1, h4, show t.toNat = d.toNat by omega]
      rw [e]
      exact ⟨rfl, h1.symm, rfl, rfl, rfl, h5, hpa⟩
noncomputable def con_rproof : Con Xp.P FMp := ⟨64, sg_rproof, pr_rproof, ps_rproof, vc_ok (La := la_rproof) (Ca := ca_rproof) 300 (fn := Go.Proofs.Try.f64) (by kernel_rfl) (c := cd_rproof) (by kernel_rfl) (by kernel_rfl) (by kernel_rfl) (by kernel_rfl) (fun ⟨d, ⟨⟨A, ⟨ls, c⟩⟩, ⟨i, ⟨⟩⟩⟩⟩ => vc_rproof d A ls c i)⟩

end Go.Pw
