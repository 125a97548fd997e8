/-
  Walks by computing. No condition.
-/
import Derived.Test.YtnkancamlnepkaaCo2
set_option linter.all false
set_option maxRecDepth 100000
set_option maxHeartbeats 1000000
namespace Go.Pw
open Go Go.Px Go.RowKit
attribute [local irreducible] shaF

def setMp : List (Pc FMp) → Nat → List (List Int × Int) → List (Pc FMp)
  | [], _, _ => []
  | .mp i n l :: r, id, l' => bif Nat.beq i id then .mp i n l' :: r else .mp i n l :: setMp r id l'
  | p :: r, id, l' => p :: setMp r id l'
abbrev cD (c : List (List Int × List Int)) (i : Nat) : List Int × List Int := c.getD i ([], [])
/-- The i-th entry collides with the j-th. -/
def colA (c : List (List Int × List Int)) (j i : Nat) : Prop := (cD c i).2 = (cD c j).2 ∧ (cD c i).1 ≠ (cD c j).1
def NC (c : List (List Int × List Int)) (j : Nat) : Prop := ∀ b, b < j → ∀ a, a < b → ¬ colA c b a
/-- Which entries collide. -/
def FR (c : List (List Int × List Int)) (i j : Int) (ok : Bool) : Prop :=
  (ok = true ∧ ∃ i' j' : Nat, i = i' ∧ j = j' ∧ i' < j' ∧ j' < c.length ∧ colA c j' i' ∧ NC c j' ∧ ∀ a, a < i' → ¬ colA c j' a) ∨ (ok = false ∧ i = 0 ∧ j = 0 ∧ NC c c.length)
theorem FR_unique {c : List (List Int × List Int)} {i j a b : Int} {x y : Bool} (h : FR c i j x) (k : FR c a b y) : i = a ∧ j = b ∧ x = y := by
  rcases h with ⟨rfl, i', j', rfl, rfl, h1, h2, h3, h4, h5⟩ | ⟨rfl, rfl, rfl, h⟩
  · rcases k with ⟨rfl, a', b', rfl, rfl, k1, k2, k3, k4, k5⟩ | ⟨rfl, rfl, rfl, k⟩
    · have hj : j' = b' := by
        rcases Nat.lt_trichotomy j' b' with h | h | h
        · exact (k4 j' h i' h1 h3).elim
        · exact h
        · exact (h4 b' h a' k1 k3).elim
      subst hj
      have hi : i' = a' := by
        rcases Nat.lt_trichotomy i' a' with h | h | h
        · exact (k5 i' h h3).elim
        · exact h
        · exact (h5 a' h k3).elim
      exact ⟨by rw [hi], rfl, rfl⟩
    · exact (k j' h2 i' h1 h3).elim
  · rcases k with ⟨rfl, a', b', rfl, rfl, k1, k2, k3, k4, k5⟩ | ⟨rfl, rfl, rfl, k⟩
    · exact (h b' k2 a' k1 k3).elim
    · exact ⟨rfl, rfl, rfl⟩
/-- A map says where each sum came first. -/
def MI (c : List (List Int × List Int)) (k : Nat) (m : List (List Int × Int)) : Prop := ∀ key : List Int, (mLk key m = none ∧ ∀ a, a < k → (cD c a).2 ≠ key) ∨ ∃ i : Nat, mLk key m = some (i : Int) ∧ i < k ∧ (cD c i).2 = key ∧ ∀ a, a < i → (cD c a).2 ≠ key
theorem mLk_snoc (key a : List Int) (v : Int) : ∀ m : List (List Int × Int), mLk key (m ++ [(a, v)]) = match mLk key m with | some x => some x | none => if key = a then some v else none
  | [] => by simp [mLk]
  | (b, x) :: m => by
    simp only [List.cons_append, mLk]
    by_cases h : key = b
    · simp [h]
    · simp [h, mLk_snoc key a v m]
theorem MI_new {c : List (List Int × List Int)} {k : Nat} {m : List (List Int × Int)} (h : MI c k m) (hn : mLk (cD c k).2 m = none) : MI c (k + 1) (m ++ [((cD c k).2, (k : Int))]) := by
  intro key
  rw [mLk_snoc]
  rcases h key with ⟨h1, h2⟩ | ⟨i, h1, h2, h3, h4⟩
  · rw [h1]
    by_cases e : key = (cD c k).2
    · right
      refine ⟨k, by show (if key = (cD c k).2 then some (k : Int) else none) = some (k : Int); rw [if_pos e], by omega, e.symm, fun a ha => h2 a ha⟩
    · left
      refine ⟨by show (if key = (cD c k).2 then some (k : Int) else none) = none; rw [if_neg e], fun a ha => ?_⟩
      by_cases ea : a = k
      · subst ea; exact fun h => e h.symm
      · exact h2 a (by omega)
  · right
    rw [h1]
    exact ⟨i, rfl, by omega, h3, h4⟩
theorem MI_old {c : List (List Int × List Int)} {k : Nat} {m : List (List Int × Int)} {v : Int} (h : MI c k m) (hs : mLk (cD c k).2 m = some v) : MI c (k + 1) m := by
  intro key
  rcases h key with ⟨h1, h2⟩ | ⟨i, h1, h2, h3, h4⟩
  · left
    refine ⟨h1, fun a ha => ?_⟩
    by_cases ea : a = k
    · subst ea; intro e; rw [e] at hs; rw [h1] at hs; cases hs
    · exact h2 a (by omega)
  · right; exact ⟨i, h1, by omega, h3, h4⟩
theorem MI_at {c : List (List Int × List Int)} {k : Nat} {m : List (List Int × Int)} {v : Int} (h : MI c k m) (hs : mLk (cD c k).2 m = some v) : ∃ i : Nat, v = i ∧ i < k ∧ (cD c i).2 = (cD c k).2 ∧ ∀ a, a < i → (cD c a).2 ≠ (cD c k).2 := by
  rcases h (cD c k).2 with ⟨h1, h2⟩ | ⟨i, h1, h2, h3, h4⟩
  · rw [h1] at hs; cases hs
  · rw [h1] at hs
    simp only [Option.some.injEq] at hs
    exact ⟨i, hs.symm, h2, h3, h4⟩
theorem NC_new {c : List (List Int × List Int)} {k : Nat} {m : List (List Int × Int)} (h : MI c k m) (hn : mLk (cD c k).2 m = none) (hc : NC c k) : NC c (k + 1) := by
  intro b hb a ha hcol
  by_cases e : b = k
  · subst e
    rcases h (cD c b).2 with ⟨h1, h2⟩ | ⟨i, h1, -⟩
    · exact h2 a ha hcol.1
    · rw [hn] at h1; cases h1
  · exact hc b (by omega) a ha hcol
theorem NC_old {c : List (List Int × List Int)} {k i : Nat} (hi : i < k) (h1 : (cD c i).2 = (cD c k).2) (h2 : ∀ a, a < i → (cD c a).2 ≠ (cD c k).2) (he : (cD c i).1 = (cD c k).1) (hc : NC c k) : NC c (k + 1) := by
  intro b hb a ha hcol
  by_cases e : b = k
  · subst e
    rcases Nat.lt_trichotomy a i with h | h | h
    · exact h2 a h hcol.1
    · subst h; exact hcol.2 he
    · exact hc a ha i h ⟨h1.trans hcol.1.symm, fun e => hcol.2 (e.symm.trans he)⟩
  · exact hc b (by omega) a ha hcol
theorem ctH_D (a : List ((Option Addr × List Int × Nat) × List Int)) {k : Nat} (h : k < a.length) : cD (ctH a) k = ((a.getD k ((none, [], 0), List.replicate 32 0)).1.2.1, (a.getD k ((none, [], 0), List.replicate 32 0)).2) := by
  rw [cD, List.getD_eq_getElem?_getD, ctH_get a h]; rfl

noncomputable def cd_cfind : Code := (Go.Proofs.Try.f15.body).getD .skip
def sg_cfind : List Arg := [.one (.slr 5)]
def pr_cfind : SgT FMp sg_cfind → List Prop
  | ((A, (ls, c)), ()) => (fun (A : Option Addr) (ls : List ((Option Addr × List Int × Nat) × List Int)) (c : Nat) => ([ls.length ≤ 140737488355328, ∀ x ∈ ls, rg x.1.2.1] : List Prop)) A ls c
def ps_cfind : SgT FMp sg_cfind → PS FMp
  | ((A, (ls, c)), ()) => (fun (A : Option Addr) (ls : List ((Option Addr × List Int × Nat) × List Int)) (c : Nat) => (⟨Int × Int × Bool, fun y => [], fun y => .tup [.one (.xv (.int .i64 y.1)), .one (.xv (.int .i64 y.2.1)), .one (.xv (.bool y.2.2))], fun y => [], fun y => [FR (ctH ls) y.1 y.2.1 y.2.2]⟩ : PS FMp)) A ls c
def la_cfind : SgT FMp sg_cfind → List (Nat × (SS FMp → HA FMp))
  | ((A, (ls, c)), ()) => (fun (A : Option Addr) (ls : List ((Option Addr × List Int × Nat) × List Int)) (c : Nat) => ([(3, fun S => ⟨Int × (List (List Int × Int)), fun y => [], fun n y => [(13, some (one (.int .i64 (y.1))))], fun n y => setMp S.m 1 y.2, fun y => [0 ≤ y.1, y.1 ≤ ls.length, MI (ctH ls) y.1.toNat y.2, NC (ctH ls) y.1.toNat], fun y => (ls.length - y.1).toNat⟩)] : List (Nat × (SS FMp → HA FMp)))) A ls c
def ca_cfind : SgT FMp sg_cfind → List (Nat × (SS FMp → HA FMp))
  | ((A, (ls, c)), ()) => (fun (A : Option Addr) (ls : List ((Option Addr × List Int × Nat) × List Int)) (c : Nat) => ([] : List (Nat × (SS FMp → HA FMp)))) A ls c
theorem vc_cfind (A : Option Addr) (ls : List ((Option Addr × List Int × Nat) × List Int)) (c : Nat) : Vc (vc (FM := FMp) Xp 45 [con_beq] (la_cfind ((A, (ls, c)), ())) (ca_cfind ((A, (ls, c)), ())) [] [] [.tmp 2, .tmp 3, .tmp 4] sg_cfind pr_cfind ps_cfind cd_cfind 300 ((A, (ls, c)), ())) := by
  refine ⟨Eq.mpr (β := (∀ (a : (Option Addr × List Int × Nat) × List Int), a ∈ ls → a.2.length = (32 : Nat)) → ls.length ≤ (140737488355328 : Nat) → (∀ (x : (Option Addr × List Int × Nat) × List Int), x ∈ ls → rg x.fst.2.1) → ∀ (b : Nat), (∃ (y : Int × List (List Int × Int)), (0 : Int) = y.1 ∧ [] = y.2 ∧ (0 : Int) ≤ y.1 ∧ y.1 ≤ (↑ls.length : Int) ∧ MI (ctH ls) y.1.toNat y.2 ∧ NC (ctH ls) y.1.toNat) ∧ ∀ (y : Int × List (List Int × Int)), (∀ (p : List Int × Int), p ∈ y.2 → p.1.length = (32 : Nat)) → (0 : Int) ≤ y.1 → y.1 ≤ (↑ls.length : Int) → MI (ctH ls) y.1.toNat y.2 → NC (ctH ls) y.1.toNat → (decide (y.1 < (↑ls.length : Int)) = true → (0 : Int) ≤ y.1 ∧ y.1 < (↑ls.length : Int) ∧ y.1.toNat < ls.length ∧ y.1.toNat < ls.length ∧ ∀ (b : Nat), ((!(mLk (ls.getD y.1.toNat (((none, [], 0), List.replicate 32 0) : (Option Addr × List Int × Nat) × List Int)).2 y.2).isSome) = true → mLk (ls.getD y.1.toNat (((none, [], 0), List.replicate 32 0) : (Option Addr × List Int × Nat) × List Int)).2 y.2 = none ∧ (-9223372036854775808 : Int) ≤ y.1 + (1 : Int) ∧ y.1 + (1 : Int) ≤ (9223372036854775807 : Int) ∧ ∃ (y_1 : Int × List (List Int × Int)), y.1 + (1 : Int) = y_1.1 ∧ y.2 ++ [((ls.getD y.1.toNat (((none, [], 0), List.replicate 32 0) : (Option Addr × List Int × Nat) × List Int)).2, y.1)] = y_1.2 ∧ (0 : Int) ≤ y_1.1 ∧ y_1.1 ≤ (↑ls.length : Int) ∧ MI (ctH ls) y_1.1.toNat y_1.2 ∧ NC (ctH ls) y_1.1.toNat ∧ ((↑ls.length : Int) - y_1.1).toNat < ((↑ls.length : Int) - y.1).toNat) ∧ ((!(mLk (ls.getD y.1.toNat (((none, [], 0), List.replicate 32 0) : (Option Addr × List Int × Nat) × List Int)).2 y.2).isSome) = false → (0 : Int) ≤ (mLk (ls.getD y.1.toNat (((none, [], 0), List.replicate 32 0) : (Option Addr × List Int × Nat) × List Int)).2 y.2).getD (0 : Int) ∧ (mLk (ls.getD y.1.toNat (((none, [], 0), List.replicate 32 0) : (Option Addr × List Int × Nat) × List Int)).2 y.2).getD (0 : Int) < (↑ls.length : Int) ∧ ((mLk (ls.getD y.1.toNat (((none, [], 0), List.replicate 32 0) : (Option Addr × List Int × Nat) × List Int)).2 y.2).getD (0 : Int)).toNat < ls.length ∧ ((mLk (ls.getD y.1.toNat (((none, [], 0), List.replicate 32 0) : (Option Addr × List Int × Nat) × List Int)).2 y.2).getD (0 : Int)).toNat < ls.length ∧ (ls.getD ((mLk (ls.getD y.1.toNat (((none, [], 0), List.replicate 32 0) : (Option Addr × List Int × Nat) × List Int)).2 y.2).getD (0 : Int)).toNat (((none, [], 0), List.replicate 32 0) : (Option Addr × List Int × Nat) × List Int)).fst.2.1.length = (ls.getD ((mLk (ls.getD y.1.toNat (((none, [], 0), List.replicate 32 0) : (Option Addr × List Int × Nat) × List Int)).2 y.2).getD (0 : Int)).toNat (((none, [], 0), List.replicate 32 0) : (Option Addr × List Int × Nat) × List Int)).fst.2.1.length ∧ (ls.getD y.1.toNat (((none, [], 0), List.replicate 32 0) : (Option Addr × List Int × Nat) × List Int)).fst.2.1.length = (ls.getD y.1.toNat (((none, [], 0), List.replicate 32 0) : (Option Addr × List Int × Nat) × List Int)).fst.2.1.length ∧ rg (ls.getD ((mLk (ls.getD y.1.toNat (((none, [], 0), List.replicate 32 0) : (Option Addr × List Int × Nat) × List Int)).2 y.2).getD (0 : Int)).toNat (((none, [], 0), List.replicate 32 0) : (Option Addr × List Int × Nat) × List Int)).fst.2.1 ∧ rg (ls.getD y.1.toNat (((none, [], 0), List.replicate 32 0) : (Option Addr × List Int × Nat) × List Int)).fst.2.1 ∧ ∀ (y_1 : Unit), ((!decide ((ls.getD ((mLk (ls.getD y.1.toNat (((none, [], 0), List.replicate 32 0) : (Option Addr × List Int × Nat) × List Int)).2 y.2).getD (0 : Int)).toNat (((none, [], 0), List.replicate 32 0) : (Option Addr × List Int × Nat) × List Int)).fst.2.1 = (ls.getD y.1.toNat (((none, [], 0), List.replicate 32 0) : (Option Addr × List Int × Nat) × List Int)).fst.2.1)) = true → ∃ (y_2 : Int × Int × Bool), (mLk (ls.getD y.1.toNat (((none, [], 0), List.replicate 32 0) : (Option Addr × List Int × Nat) × List Int)).2 y.2).getD (0 : Int) = y_2.1 ∧ y.1 = y_2.2.1 ∧ true = y_2.2.2 ∧ FR (ctH ls) y_2.1 y_2.2.1 y_2.2.2) ∧ ((!decide ((ls.getD ((mLk (ls.getD y.1.toNat (((none, [], 0), List.replicate 32 0) : (Option Addr × List Int × Nat) × List Int)).2 y.2).getD (0 : Int)).toNat (((none, [], 0), List.replicate 32 0) : (Option Addr × List Int × Nat) × List Int)).fst.2.1 = (ls.getD y.1.toNat (((none, [], 0), List.replicate 32 0) : (Option Addr × List Int × Nat) × List Int)).fst.2.1)) = false → (-9223372036854775808 : Int) ≤ y.1 + (1 : Int) ∧ y.1 + (1 : Int) ≤ (9223372036854775807 : Int) ∧ ∃ (y_2 : Int × List (List Int × Int)), y.1 + (1 : Int) = y_2.1 ∧ y.2 = y_2.2 ∧ (0 : Int) ≤ y_2.1 ∧ y_2.1 ≤ (↑ls.length : Int) ∧ MI (ctH ls) y_2.1.toNat y_2.2 ∧ NC (ctH ls) y_2.1.toNat ∧ ((↑ls.length : Int) - y_2.1).toNat < ((↑ls.length : Int) - y.1).toNat))) ∧ (decide (y.1 < (↑ls.length : Int)) = false → ∃ (y : Int × Int × Bool), (0 : Int) = y.1 ∧ (0 : Int) = y.2.1 ∧ false = y.2.2 ∧ FR (ctH ls) y.1 y.2.1 y.2.2)) (by kernel_rfl) ?_⟩
  simp only [imin, imax, decide_eq_true_eq, decide_eq_false_iff_not, Prod.forall, Prod.exists, exists_eq_left', exists_eq_left, exists_and_left, exists_and_right, exists_eq_right, exists_eq, exists_eq', true_and, and_true, forall_const, exists_const, eq_self, Bool.not_eq_true, Bool.not_eq_eq_eq_not, Bool.not_true, Bool.not_false, Value.slice.injEq, Option.getD_some, imp_self, implies_true, Option.some.injEq, Addr.mk.injEq, true_or, or_true, List.length_cons, List.length_nil, Nat.zero_add, Nat.reduceAdd]
  intro hl hn hg
  have lc := ctH_length ls
  refine ⟨⟨by omega, by omega, fun key => .inl ⟨rfl, fun a ha => by simp at ha⟩, fun b hb => by simp at hb⟩, fun k m hm h0 h1 h2 h3 => ⟨fun h4 => ?_, fun h4 => ?_⟩⟩
  · have nk : k.toNat < ls.length := by omega
    have ek := ctH_D ls nk
    have hgk : rg (ls.getD k.toNat ((none, [], 0), List.replicate 32 0)).1.2.1 := by rw [getD_lt nk]; exact hg _ _ _ _ (List.getElem_mem nk)
    have e2 : (cD (ctH ls) k.toNat).2 = (ls.getD k.toNat ((none, [], 0), List.replicate 32 0)).2 := by rw [ek]
    have e1 : (cD (ctH ls) k.toNat).1 = (ls.getD k.toNat ((none, [], 0), List.replicate 32 0)).1.2.1 := by rw [ek]
    generalize ls.getD k.toNat ((none, [], 0), List.replicate 32 0) = p at e1 e2 hgk ⊢
    have hk1 : (k + 1).toNat = k.toNat + 1 := by omega
    refine ⟨h0, h4, nk, nk, fun h5 => ?_, fun h5 => ?_⟩
    · have hn' : mLk p.2 m = none := by simpa using h5
      refine ⟨hn', by omega, by omega, by omega, by omega, ?_, ?_, by omega⟩
      · have := MI_new h2 (by rw [e2]; exact hn')
        rw [e2, Int.toNat_of_nonneg h0] at this
        rw [hk1]; exact this
      · rw [hk1]; exact NC_new h2 (by rw [e2]; exact hn') h3
    · obtain ⟨v, hv⟩ := Option.isSome_iff_exists.1 h5
      obtain ⟨i, rfl, hi, hs, hf⟩ := MI_at h2 (by rw [e2]; exact hv)
      rw [hv]
      simp only [Option.getD_some, Int.toNat_natCast]
      have ni : i < ls.length := by omega
      have ei := ctH_D ls ni
      have hgi : rg (ls.getD i ((none, [], 0), List.replicate 32 0)).1.2.1 := by rw [getD_lt ni]; exact hg _ _ _ _ (List.getElem_mem ni)
      have f1 : (cD (ctH ls) i).1 = (ls.getD i ((none, [], 0), List.replicate 32 0)).1.2.1 := by rw [ei]
      generalize ls.getD i ((none, [], 0), List.replicate 32 0) = r at f1 hgi ⊢
      refine ⟨by omega, by omega, ni, ni, hgi, hgk, fun h6 => .inl ⟨rfl, i, k.toNat, rfl, (Int.toNat_of_nonneg h0).symm, hi, by omega, ⟨hs, by rw [f1, e1]; exact h6⟩, h3, fun a ha hc => hf a ha hc.1⟩, fun h6 => ⟨by omega, by omega, by omega, by omega, ?_, ?_, by omega⟩⟩
      · rw [hk1]; exact MI_old h2 (by rw [e2]; exact hv)
      · rw [hk1]; exact NC_old hi hs hf (by rw [f1, e1]; exact h6) h3
  · refine .inr ⟨rfl, rfl, rfl, ?_⟩
    rw [lc, show ls.length = k.toNat by omega]
    exact h3
noncomputable def con_cfind : Con Xp.P FMp := ⟨15, sg_cfind, pr_cfind, ps_cfind, vc_ok (La := la_cfind) (Ca := ca_cfind) 300 (fn := Go.Proofs.Try.f15) (by kernel_rfl) (c := cd_cfind) (by kernel_rfl) (by kernel_rfl) (by kernel_rfl) (by kernel_rfl) (fun ⟨⟨A, ⟨ls, c⟩⟩, ⟨⟩⟩ => vc_cfind A ls c)⟩
noncomputable def cd_rcfind : Code := (Go.Proofs.Try.f16.body).getD .skip
def sg_rcfind : List Arg := [.one (.slr 5)]
def pr_rcfind : SgT FMp sg_rcfind → List Prop
  | ((A, (ls, c)), ()) => (fun (A : Option Addr) (ls : List ((Option Addr × List Int × Nat) × List Int)) (c : Nat) => ([ls.length ≤ 140737488355328, ∀ x ∈ ls, rg x.1.2.1] : List Prop)) A ls c
def ps_rcfind : SgT FMp sg_rcfind → PS FMp
  | ((A, (ls, c)), ()) => (fun (A : Option Addr) (ls : List ((Option Addr × List Int × Nat) × List Int)) (c : Nat) => (⟨Int × Int × Bool, fun y => [], fun y => .tup [.one (.xv (.int .i64 y.1)), .one (.xv (.int .i64 y.2.1)), .one (.xv (.bool y.2.2))], fun y => [], fun y => [FR (ctH ls) y.1 y.2.1 y.2.2]⟩ : PS FMp)) A ls c
def la_rcfind : SgT FMp sg_rcfind → List (Nat × (SS FMp → HA FMp))
  | ((A, (ls, c)), ()) => (fun (A : Option Addr) (ls : List ((Option Addr × List Int × Nat) × List Int)) (c : Nat) => ([(2, fun S => ⟨Int, fun y => [], fun n y => [(5, some (one (.int .i64 (y))))], fun n y => S.m, fun y => [0 ≤ y, y ≤ ls.length, NC (ctH ls) y.toNat], fun y => (ls.length - y).toNat⟩), (5, fun S => ⟨Int, fun y => [], fun n y => [(6, some (one (.int .i64 (y))))], fun n y => S.m, fun y => [0 ≤ y, y ≤ la_i S 5, ∀ b, b < y.toNat → ¬ colA (ctH ls) (la_i S 5).toNat b], fun y => (la_i S 5 - y).toNat⟩)] : List (Nat × (SS FMp → HA FMp)))) A ls c
def ca_rcfind : SgT FMp sg_rcfind → List (Nat × (SS FMp → HA FMp))
  | ((A, (ls, c)), ()) => (fun (A : Option Addr) (ls : List ((Option Addr × List Int × Nat) × List Int)) (c : Nat) => ([] : List (Nat × (SS FMp → HA FMp)))) A ls c
theorem vc_rcfind (A : Option Addr) (ls : List ((Option Addr × List Int × Nat) × List Int)) (c : Nat) : Vc (vc (FM := FMp) Xp 45 [con_same] (la_rcfind ((A, (ls, c)), ())) (ca_rcfind ((A, (ls, c)), ())) [] [] [.tmp 2, .tmp 3, .tmp 4] sg_rcfind pr_rcfind ps_rcfind cd_rcfind 300 ((A, (ls, c)), ())) := by
  refine ⟨Eq.mpr (β := (∀ (a : (Option Addr × List Int × Nat) × List Int), a ∈ ls → a.2.length = (32 : Nat)) → ls.length ≤ (140737488355328 : Nat) → (∀ (x : (Option Addr × List Int × Nat) × List Int), x ∈ ls → rg x.fst.2.1) → (∃ (y : Int), (0 : Int) = y ∧ (0 : Int) ≤ y ∧ y ≤ (↑ls.length : Int) ∧ NC (ctH ls) y.toNat) ∧ ∀ (y : Int), (0 : Int) ≤ y → y ≤ (↑ls.length : Int) → NC (ctH ls) y.toNat → (decide (y < (↑ls.length : Int)) = true → (∃ (y_1 : Int), (0 : Int) = y_1 ∧ (0 : Int) ≤ y_1 ∧ y_1 ≤ y ∧ ∀ (b : Nat), b < y_1.toNat → ¬colA (ctH ls) y.toNat b) ∧ ∀ (y_1 : Int), (0 : Int) ≤ y_1 → y_1 ≤ y → (∀ (b : Nat), b < y_1.toNat → ¬colA (ctH ls) y.toNat b) → (decide (y_1 < y) = true → (0 : Int) ≤ y_1 ∧ y_1 < (↑ls.length : Int) ∧ y_1.toNat < ls.length ∧ y_1.toNat < ls.length ∧ (0 : Int) ≤ y ∧ y < (↑ls.length : Int) ∧ y.toNat < ls.length ∧ y.toNat < ls.length ∧ (decide ((ls.getD y_1.toNat (((none, [], 0), List.replicate 32 0) : (Option Addr × List Int × Nat) × List Int)).2 = (ls.getD y.toNat (((none, [], 0), List.replicate 32 0) : (Option Addr × List Int × Nat) × List Int)).2) = true → (0 : Int) ≤ y_1 ∧ y_1 < (↑ls.length : Int) ∧ y_1.toNat < ls.length ∧ y_1.toNat < ls.length ∧ (0 : Int) ≤ y ∧ y < (↑ls.length : Int) ∧ y.toNat < ls.length ∧ y.toNat < ls.length ∧ (ls.getD y_1.toNat (((none, [], 0), List.replicate 32 0) : (Option Addr × List Int × Nat) × List Int)).fst.2.1.length = (ls.getD y_1.toNat (((none, [], 0), List.replicate 32 0) : (Option Addr × List Int × Nat) × List Int)).fst.2.1.length ∧ (ls.getD y.toNat (((none, [], 0), List.replicate 32 0) : (Option Addr × List Int × Nat) × List Int)).fst.2.1.length = (ls.getD y.toNat (((none, [], 0), List.replicate 32 0) : (Option Addr × List Int × Nat) × List Int)).fst.2.1.length ∧ rg (ls.getD y_1.toNat (((none, [], 0), List.replicate 32 0) : (Option Addr × List Int × Nat) × List Int)).fst.2.1 ∧ rg (ls.getD y.toNat (((none, [], 0), List.replicate 32 0) : (Option Addr × List Int × Nat) × List Int)).fst.2.1 ∧ ∀ (y_2 : Unit), ((!decide ((ls.getD y_1.toNat (((none, [], 0), List.replicate 32 0) : (Option Addr × List Int × Nat) × List Int)).fst.2.1 = (ls.getD y.toNat (((none, [], 0), List.replicate 32 0) : (Option Addr × List Int × Nat) × List Int)).fst.2.1)) = true → ∃ (y_3 : Int × Int × Bool), y_1 = y_3.1 ∧ y = y_3.2.1 ∧ true = y_3.2.2 ∧ FR (ctH ls) y_3.1 y_3.2.1 y_3.2.2) ∧ ((!decide ((ls.getD y_1.toNat (((none, [], 0), List.replicate 32 0) : (Option Addr × List Int × Nat) × List Int)).fst.2.1 = (ls.getD y.toNat (((none, [], 0), List.replicate 32 0) : (Option Addr × List Int × Nat) × List Int)).fst.2.1)) = false → (-9223372036854775808 : Int) ≤ y_1 + (1 : Int) ∧ y_1 + (1 : Int) ≤ (9223372036854775807 : Int) ∧ ∃ (y_3 : Int), y_1 + (1 : Int) = y_3 ∧ (0 : Int) ≤ y_3 ∧ y_3 ≤ y ∧ (∀ (b : Nat), b < y_3.toNat → ¬colA (ctH ls) y.toNat b) ∧ (y - y_3).toNat < (y - y_1).toNat)) ∧ (decide ((ls.getD y_1.toNat (((none, [], 0), List.replicate 32 0) : (Option Addr × List Int × Nat) × List Int)).2 = (ls.getD y.toNat (((none, [], 0), List.replicate 32 0) : (Option Addr × List Int × Nat) × List Int)).2) = false → (-9223372036854775808 : Int) ≤ y_1 + (1 : Int) ∧ y_1 + (1 : Int) ≤ (9223372036854775807 : Int) ∧ ∃ (y_2 : Int), y_1 + (1 : Int) = y_2 ∧ (0 : Int) ≤ y_2 ∧ y_2 ≤ y ∧ (∀ (b : Nat), b < y_2.toNat → ¬colA (ctH ls) y.toNat b) ∧ (y - y_2).toNat < (y - y_1).toNat)) ∧ (decide (y_1 < y) = false → (-9223372036854775808 : Int) ≤ y + (1 : Int) ∧ y + (1 : Int) ≤ (9223372036854775807 : Int) ∧ ∃ (y_2 : Int), y + (1 : Int) = y_2 ∧ (0 : Int) ≤ y_2 ∧ y_2 ≤ (↑ls.length : Int) ∧ NC (ctH ls) y_2.toNat ∧ ((↑ls.length : Int) - y_2).toNat < ((↑ls.length : Int) - y).toNat)) ∧ (decide (y < (↑ls.length : Int)) = false → ∃ (y : Int × Int × Bool), (0 : Int) = y.1 ∧ (0 : Int) = y.2.1 ∧ false = y.2.2 ∧ FR (ctH ls) y.1 y.2.1 y.2.2)) (by kernel_rfl) ?_⟩
  simp only [imin, imax, decide_eq_true_eq, decide_eq_false_iff_not, Prod.forall, Prod.exists, exists_eq_left', exists_eq_left, exists_and_left, exists_and_right, exists_eq_right, exists_eq, exists_eq', true_and, and_true, forall_const, exists_const, eq_self, Bool.not_eq_true, Bool.not_eq_eq_eq_not, Bool.not_true, Bool.not_false, Value.slice.injEq, Option.getD_some, imp_self, implies_true, Option.some.injEq, Addr.mk.injEq, true_or, or_true, List.length_cons, List.length_nil, Nat.zero_add, Nat.reduceAdd]
  intro hl hn hg
  have lc := ctH_length ls
  refine ⟨⟨by omega, by omega, fun b hb => by simp at hb⟩, fun k h0 h1 h2 => ⟨fun h4 => ⟨⟨by omega, by omega, fun b hb => by simp at hb⟩, fun i g0 g1 g2 => ⟨fun g4 => ?_, fun g4 => ?_⟩⟩, fun h4 => ?_⟩⟩
  · have nk : k.toNat < ls.length := by omega
    have ek := ctH_D ls nk
    have hgk : rg (ls.getD k.toNat ((none, [], 0), List.replicate 32 0)).1.2.1 := by rw [getD_lt nk]; exact hg _ _ _ _ (List.getElem_mem nk)
    have ni : i.toNat < ls.length := by omega
    have ei := ctH_D ls ni
    have hgi : rg (ls.getD i.toNat ((none, [], 0), List.replicate 32 0)).1.2.1 := by rw [getD_lt ni]; exact hg _ _ _ _ (List.getElem_mem ni)
    have hi1 : (i + 1).toNat = i.toNat + 1 := by omega
    generalize ls.getD k.toNat ((none, [], 0), List.replicate 32 0) = p at ek hgk ⊢
    generalize ls.getD i.toNat ((none, [], 0), List.replicate 32 0) = r at ei hgi ⊢
    have nx : (¬ colA (ctH ls) k.toNat i.toNat) → ∀ b, b < (i + 1).toNat → ¬ colA (ctH ls) k.toNat b := by
      intro hc b hb
      by_cases e : b = i.toNat
      · subst e; exact hc
      · exact g2 b (by omega)
    refine ⟨g0, by omega, ni, ni, h0, h4, nk, nk, fun h5 => ⟨g0, by omega, ni, ni, h0, h4, nk, nk, hgi, hgk, fun h6 => .inl ⟨rfl, i.toNat, k.toNat, (Int.toNat_of_nonneg g0).symm, (Int.toNat_of_nonneg h0).symm, by omega, by omega, ⟨by rw [ei, ek]; exact h5, by rw [ei, ek]; exact h6⟩, h2, g2⟩, fun h6 => ⟨by omega, by omega, by omega, by omega, nx (fun hc => hc.2 (by rw [ei, ek]; exact h6)), by omega⟩⟩, fun h5 => ⟨by omega, by omega, by omega, by omega, nx (fun hc => h5 (by have := hc.1; rw [ei, ek] at this; exact this)), by omega⟩⟩
  · refine ⟨by omega, by omega, by omega, by omega, fun b hb a ha => ?_, by omega⟩
    by_cases e : b = k.toNat
    · subst e; exact g2 a (by omega)
    · exact h2 b (by omega) a ha
  · refine .inr ⟨rfl, rfl, rfl, ?_⟩
    rw [lc, show ls.length = k.toNat by omega]
    exact h2
noncomputable def con_rcfind : Con Xp.P FMp := ⟨16, sg_rcfind, pr_rcfind, ps_rcfind, vc_ok (La := la_rcfind) (Ca := ca_rcfind) 300 (fn := Go.Proofs.Try.f16) (by kernel_rfl) (c := cd_rcfind) (by kernel_rfl) (by kernel_rfl) (by kernel_rfl) (by kernel_rfl) (fun ⟨⟨A, ⟨ls, c⟩⟩, ⟨⟩⟩ => vc_rcfind A ls c)⟩

end Go.Pw
