/-
  Walks by computing. No condition.
-/
import Derived.Test.YtogpbbgcdeiplaaSt4
import Derived.Test.YtogpbbgcdeiplaaBr1
set_option linter.all false
set_option maxRecDepth 100000
set_option maxHeartbeats 1000000
namespace Go.Pw
open Go Go.Px Go.RowKit
attribute [local irreducible] shaF

/-- What error a withdrawal comes to. -/
def clE (i o : Int) (p : List Int) (sp : List Bool) (root : List Int) (ix to am : Int) (ps : List (List Int)) (oth : List Int) (cnt : Int) : Int :=
  if ¬ (bmay p i o = true ∧ to < 14) then 2 else if ckO root ix to am ps oth cnt = false then 210 else if sp.getD ix.toNat false = true then 211 else payE p 14 to am
/-- What comes of a withdrawal. -/
def clRes (i o : Int) (sp : List Bool) (p : List Int) (root : List Int) (ix to am : Int) (ps : List (List Int)) (oth : List Int) (cnt : Int) (i' o' : Int) (sp' : List Bool) (p' : List Int) (e : Int) : Prop :=
  e = clE i o p sp root ix to am ps oth cnt ∧
  ((e = 0 ∧ i' = i ∧ o' = o + am ∧ sp' = sp.set ix.toNat true ∧ p' = payP p 14 to am) ∨ (e ≠ 0 ∧ i' = 0 ∧ o' = 0 ∧ sp' = List.replicate 32 false ∧ p' = List.replicate 16 0))


theorem clE1 {i o : Int} {p : List Int} {sp : List Bool} {root : List Int} {ix to am : Int} {ps : List (List Int)} {oth : List Int} {cnt : Int} (h : (!bmay p i o || decide (14 ≤ to)) = true) : clE i o p sp root ix to am ps oth cnt = 2 := by
  unfold clE
  rw [if_pos]
  rintro ⟨h1, h2⟩
  simp only [Bool.or_eq_true, Bool.not_eq_true', decide_eq_true_eq] at h
  rcases h with h | h
  · rw [h1] at h; cases h
  · omega
theorem clE2 {i o : Int} {p : List Int} {sp : List Bool} {root : List Int} {ix to am : Int} {ps : List (List Int)} {oth : List Int} {cnt : Int} (h : bmay p i o = true ∧ to < 14) (h2 : ckO root ix to am ps oth cnt = false) : clE i o p sp root ix to am ps oth cnt = 210 := by
  unfold clE
  rw [if_neg (fun x => x h), if_pos h2]
theorem clE3 {i o : Int} {p : List Int} {sp : List Bool} {root : List Int} {ix to am : Int} {ps : List (List Int)} {oth : List Int} {cnt : Int} (h : bmay p i o = true ∧ to < 14) (h2 : ckO root ix to am ps oth cnt = true) (h3 : sp.getD ix.toNat false = true) : clE i o p sp root ix to am ps oth cnt = 211 := by
  unfold clE
  rw [if_neg (fun x => x h), if_neg (by rw [h2]; decide), if_pos h3]
theorem clE4 {i o : Int} {p : List Int} {sp : List Bool} {root : List Int} {ix to am : Int} {ps : List (List Int)} {oth : List Int} {cnt : Int} (h : bmay p i o = true ∧ to < 14) (h2 : ckO root ix to am ps oth cnt = true) (h3 : sp.getD ix.toNat false = false) : clE i o p sp root ix to am ps oth cnt = payE p 14 to am := by
  unfold clE
  rw [if_neg (fun x => x h), if_neg (by rw [h2]; decide), if_neg (by rw [h3]; decide)]
theorem ck_ix {root : List Int} {i to am : Int} {ps : List (List Int)} {oth : List Int} {cnt : Int} (h : ckO root i to am ps oth cnt = true) : 0 ≤ i ∧ i < 32 := by
  unfold ckO sfoB at h
  simp only [Bool.and_eq_true, decide_eq_true_eq] at h
  exact fldE5.1 h.1.1.2
theorem pay_ge {p : List Int} {f g a : Int} (h : payE p f g a = 0) : a ≤ p.getD f.toNat 0 := by
  unfold payE at h
  split at h
  · split at h
    · assumption
    · cases h
  · cases h
noncomputable def cd_bclaim : Code := (Go.Proofs.Try.f17.body).getD .skip
def sg_bclaim : List Arg := [.ag [.int .u64, .int .u64, .rcs 7 32], .ag [.arr .u64 16], .ag [.arr .u8 32], .one (.int .i64), .ag [.int .u64, .int .u64], .ag [.slr 0, .arr .u8 32, .int .u64]]
def pr_bclaim : SgT FMp sg_bclaim → List Prop
  | ((i, (o, (sp, ()))), ((p, ()), ((root, ()), (ix, ((to, (am, ())), (((P, (ps, pc)), (oth, (cnt, ()))), ())))))) => (fun (i o : Int) (sp : List Bool) (p root : List Int) (ix to am : Int) (P : Option Addr) (ps : List (List Int)) (pc : Nat) (oth : List Int) (cnt : Int) => ([0 ≤ to, 0 ≤ am, am < 18446744073709551616, 0 ≤ i, 0 ≤ o, r64 p] : List Prop)) i o sp p root ix to am P ps pc oth cnt
def ps_bclaim : SgT FMp sg_bclaim → PS FMp
  | ((i, (o, (sp, ()))), ((p, ()), ((root, ()), (ix, ((to, (am, ())), (((P, (ps, pc)), (oth, (cnt, ()))), ())))))) => (fun (i o : Int) (sp : List Bool) (p root : List Int) (ix to am : Int) (P : Option Addr) (ps : List (List Int)) (pc : Nat) (oth : List Int) (cnt : Int) => (⟨Int × Int × (List Bool) × (List Int) × Int, fun y => [], fun y => .tup [.ag [.b (.cl (.xv (.int .u64 (y.1)))), .b (.cl (.xv (.int .u64 (y.2.1)))), .f 7 y.2.2.1 32], .ag (zz .u64 y.2.2.2.1 16), .one (.xv (.int .i64 y.2.2.2.2))], fun y => [], fun y => [clRes i o sp p root ix to am ps oth cnt y.1 y.2.1 y.2.2.1 y.2.2.2.1 y.2.2.2.2, y.2.2.2.1.length = 16, y.2.2.1.length = 32]⟩ : PS FMp)) i o sp p root ix to am P ps pc oth cnt
def la_bclaim : SgT FMp sg_bclaim → List (Nat × (SS FMp → HA FMp))
  | ((i, (o, (sp, ()))), ((p, ()), ((root, ()), (ix, ((to, (am, ())), (((P, (ps, pc)), (oth, (cnt, ()))), ())))))) => (fun (i o : Int) (sp : List Bool) (p root : List Int) (ix to am : Int) (P : Option Addr) (ps : List (List Int)) (pc : Nat) (oth : List Int) (cnt : Int) => ([] : List (Nat × (SS FMp → HA FMp)))) i o sp p root ix to am P ps pc oth cnt
def ca_bclaim : SgT FMp sg_bclaim → List (Nat × (SS FMp → HA FMp))
  | ((i, (o, (sp, ()))), ((p, ()), ((root, ()), (ix, ((to, (am, ())), (((P, (ps, pc)), (oth, (cnt, ()))), ())))))) => (fun (i o : Int) (sp : List Bool) (p root : List Int) (ix to am : Int) (P : Option Addr) (ps : List (List Int)) (pc : Nat) (oth : List Int) (cnt : Int) => ([] : List (Nat × (SS FMp → HA FMp)))) i o sp p root ix to am P ps pc oth cnt
theorem vc_bclaim (i o : Int) (sp : List Bool) (p root : List Int) (ix to am : Int) (P : Option Addr) (ps : List (List Int)) (pc : Nat) (oth : List Int) (cnt : Int) : Vc (vc (FM := FMp) Xp 71 [con_bmay_, con_scheck, con_lpay] (la_bclaim ((i, (o, (sp, ()))), ((p, ()), ((root, ()), (ix, ((to, (am, ())), (((P, (ps, pc)), (oth, (cnt, ()))), ()))))))) (ca_bclaim ((i, (o, (sp, ()))), ((p, ()), ((root, ()), (ix, ((to, (am, ())), (((P, (ps, pc)), (oth, (cnt, ()))), ()))))))) [] [] [.cell 12 25, .cell 13 27, .tmp 14] sg_bclaim pr_bclaim ps_bclaim cd_bclaim 300 ((i, (o, (sp, ()))), ((p, ()), ((root, ()), (ix, ((to, (am, ())), (((P, (ps, pc)), (oth, (cnt, ()))), ()))))))) := by
  refine ⟨Eq.mpr (β := sp.length = (32 : Nat) → (∀ (a : Bool), List.Mem a sp → True) → p.length = (16 : Nat) → root.length = (32 : Nat) → (∀ (a : List Int), a ∈ ps → a.length = (32 : Nat)) → oth.length = (32 : Nat) → (0 : Int) ≤ to → (0 : Int) ≤ am → am < (18446744073709551616 : Int) → (0 : Int) ≤ i → (0 : Int) ≤ o → r64 p → ∀ (b b b b b b b : Nat), r64 p ∧ ∀ (y : Unit), ((!bmay p i o || decide ((14 : Int) ≤ to)) = true → (fun (p : Prop) => (p ∧ p) ∧ p) (∃ (y : Int × Int × List Bool × List Int × Int), (0 : Int) = y.1 ∧ (0 : Int) = y.2.1 ∧ List.replicate (32 : Nat) false = y.snd.2.1 ∧ (32 : Nat) = (32 : Nat) ∧ List.replicate (16 : Nat) (0 : Int) = y.snd.snd.2.1 ∧ (16 : Nat) = (16 : Nat) ∧ (2 : Int) = y.snd.snd.2.2 ∧ clRes i o sp p root ix to am ps oth cnt y.1 y.2.1 y.snd.2.1 y.snd.snd.2.1 y.snd.snd.2.2 ∧ y.snd.snd.2.1.length = (16 : Nat) ∧ y.snd.2.1.length = (32 : Nat))) ∧ ((!bmay p i o || decide ((14 : Int) ≤ to)) = false → ps.length = ps.length ∧ ∀ (y : Unit), ((!ckO root ix to am ps oth cnt) = true → (fun (p : Prop) => (p ∧ p) ∧ p) (∃ (y : Int × Int × List Bool × List Int × Int), (0 : Int) = y.1 ∧ (0 : Int) = y.2.1 ∧ List.replicate (32 : Nat) false = y.snd.2.1 ∧ (32 : Nat) = (32 : Nat) ∧ List.replicate (16 : Nat) (0 : Int) = y.snd.snd.2.1 ∧ (16 : Nat) = (16 : Nat) ∧ (210 : Int) = y.snd.snd.2.2 ∧ clRes i o sp p root ix to am ps oth cnt y.1 y.2.1 y.snd.2.1 y.snd.snd.2.1 y.snd.snd.2.2 ∧ y.snd.snd.2.1.length = (16 : Nat) ∧ y.snd.2.1.length = (32 : Nat))) ∧ ((!ckO root ix to am ps oth cnt) = false → (0 : Int) ≤ ix ∧ ix < (32 : Int) ∧ ix.toNat < (32 : Nat) ∧ (sp.getD ix.toNat false = true → (fun (p : Prop) => (p ∧ p) ∧ p) (∃ (y : Int × Int × List Bool × List Int × Int), (0 : Int) = y.1 ∧ (0 : Int) = y.2.1 ∧ List.replicate (32 : Nat) false = y.snd.2.1 ∧ (32 : Nat) = (32 : Nat) ∧ List.replicate (16 : Nat) (0 : Int) = y.snd.snd.2.1 ∧ (16 : Nat) = (16 : Nat) ∧ (211 : Int) = y.snd.snd.2.2 ∧ clRes i o sp p root ix to am ps oth cnt y.1 y.2.1 y.snd.2.1 y.snd.snd.2.1 y.snd.snd.2.2 ∧ y.snd.snd.2.1.length = (16 : Nat) ∧ y.snd.2.1.length = (32 : Nat))) ∧ (sp.getD ix.toNat false = false → (-9223372036854775808 : Int) ≤ to ∧ to ≤ (9223372036854775807 : Int) ∧ r64 p ∧ (0 : Int) ≤ am ∧ ∀ (y : Unit), (payP p (14 : Int) to am).length = (16 : Nat) → (payP p (14 : Int) to am).length = (16 : Nat) → ∀ (b : Nat), ((!decide (payE p (14 : Int) to am = (0 : Int))) = true → (fun (p : Prop) => (p ∧ p) ∧ p) (∃ (y : Int × Int × List Bool × List Int × Int), (0 : Int) = y.1 ∧ (0 : Int) = y.2.1 ∧ List.replicate (32 : Nat) false = y.snd.2.1 ∧ (32 : Nat) = (32 : Nat) ∧ List.replicate (16 : Nat) (0 : Int) = y.snd.snd.2.1 ∧ (16 : Nat) = (16 : Nat) ∧ payE p (14 : Int) to am = y.snd.snd.2.2 ∧ clRes i o sp p root ix to am ps oth cnt y.1 y.2.1 y.snd.2.1 y.snd.snd.2.1 y.snd.snd.2.2 ∧ y.snd.snd.2.1.length = (16 : Nat) ∧ y.snd.2.1.length = (32 : Nat))) ∧ ((!decide (payE p (14 : Int) to am = (0 : Int))) = false → (0 : Int) ≤ ix ∧ ix < (32 : Int) ∧ ix.toNat < (32 : Nat) ∧ ∃ (y : Int × Int × List Bool × List Int × Int), i = y.1 ∧ IntKind.u64.wrap (o + am) = y.2.1 ∧ sp.set ix.toNat true = y.snd.2.1 ∧ (32 : Nat) = (32 : Nat) ∧ payP p (14 : Int) to am = y.snd.snd.2.1 ∧ (16 : Nat) = (16 : Nat) ∧ (0 : Int) = y.snd.snd.2.2 ∧ clRes i o sp p root ix to am ps oth cnt y.1 y.2.1 y.snd.2.1 y.snd.snd.2.1 y.snd.snd.2.2 ∧ y.snd.snd.2.1.length = (16 : Nat) ∧ y.snd.2.1.length = (32 : Nat)))))) (by kernel_rfl) ?_⟩
  simp only [imin, imax, decide_eq_true_eq, decide_eq_false_iff_not, Prod.forall, Prod.exists, exists_eq_left', exists_eq_left, exists_and_left, exists_and_right, exists_eq_right, exists_eq, exists_eq', true_and, and_true, forall_const, exists_const, eq_self, Bool.not_eq_true, Bool.not_eq_eq_eq_not, Bool.not_true, Bool.not_false, Value.slice.injEq, Option.getD_some, imp_self, implies_true, Option.some.injEq, Addr.mk.injEq, true_or, or_true, List.length_cons, List.length_nil, Nat.zero_add, Nat.reduceAdd]
  intro hsp hp hroot hps hoth ht ham ham2 hi ho hr
  simp only [and_self]
  have F : ∀ ee, ee = clE i o p sp root ix to am ps oth cnt → ee ≠ 0 → clRes i o sp p root ix to am ps oth cnt 0 0 (List.replicate 32 false) (List.replicate 16 0) ee ∧ (List.replicate 16 (0 : Int)).length = 16 ∧ (List.replicate 32 false).length = 32 := fun ee h1 h2 => ⟨⟨h1, .inr ⟨h2, rfl, rfl, rfl, rfl⟩⟩, by simp, by simp⟩
  refine ⟨hr, fun h => F _ (by rw [clE1 h]) (by decide), fun h => ?_⟩
  simp only [Bool.or_eq_false_iff, Bool.not_eq_false', decide_eq_false_iff_not] at h
  have g : bmay p i o = true ∧ to < 14 := ⟨h.1, by omega⟩
  refine ⟨fun hc => F _ (by rw [clE2 g hc]) (by decide), fun hc => ?_⟩
  have hix := ck_ix hc
  refine ⟨hix.1, hix.2, by omega, fun hs => F _ (by rw [clE3 g hc hs]) (by decide), fun hs => ?_⟩
  have hE := clE4 g hc hs
  refine ⟨by omega, by omega, hr, ham, fun hl _ => ⟨fun he => F _ hE.symm he, fun he => ?_⟩⟩
  rw [he] at hE
  obtain ⟨b1, b2, b3, b4⟩ := bmay_tot g.1
  have ho2 : am ≤ p.getD 14 0 := pay_ge he
  have hs14 := sumN_ge hr (show 14 < 16 by omega)
  unfold totOk at b1
  have hw : IntKind.u64.wrap (o + am) = o + am := by rw [wrap64, Int.emod_eq_of_lt (by omega) (by omega)]
  rw [hw]
  exact ⟨hix.1, hix.2, by omega, ⟨hE.symm, .inl ⟨rfl, rfl, rfl, rfl, rfl⟩⟩, hl, by simpa using hsp⟩
noncomputable def con_bclaim : Con Xp.P FMp := ⟨17, sg_bclaim, pr_bclaim, ps_bclaim, vc_ok (La := la_bclaim) (Ca := ca_bclaim) 300 (fn := Go.Proofs.Try.f17) (by kernel_rfl) (c := cd_bclaim) (by kernel_rfl) (by kernel_rfl) (by kernel_rfl) (by kernel_rfl) (fun ⟨⟨i, ⟨o, ⟨sp, ⟨⟩⟩⟩⟩, ⟨⟨p, ⟨⟩⟩, ⟨⟨root, ⟨⟩⟩, ⟨ix, ⟨⟨to, ⟨am, ⟨⟩⟩⟩, ⟨⟨⟨P, ⟨ps, pc⟩⟩, ⟨oth, ⟨cnt, ⟨⟩⟩⟩⟩, ⟨⟩⟩⟩⟩⟩⟩⟩ => vc_bclaim i o sp p root ix to am P ps pc oth cnt)⟩

end Go.Pw
