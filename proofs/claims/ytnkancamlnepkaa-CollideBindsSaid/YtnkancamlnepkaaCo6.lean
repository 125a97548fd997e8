/-
  Walks by computing. No condition.
-/
import Derived.Test.YtnkancamlnepkaaCo5
set_option linter.all false
set_option maxRecDepth 100000
set_option maxHeartbeats 1000000
namespace Go.Pw
open Go Go.Px Go.RowKit
attribute [local irreducible] shaF


theorem cD_pth {i : Int} {x : List Int} {ps : List (List Int)} (o : fldOk i ps.length) {k : Nat} (h : k < ps.length) : cD (pth i x ps) k = ent i.toNat ps x k := by
  rw [cD, pth, if_pos o, getD_lt (by rw [pthN_length]; exact h)]
  simp [pthN]
theorem BR_rg {i : Int} {a b x y : List Int} {pa pb : List (List Int)} {ok : Bool} (h : BR (bndOk i a pa b pb) (pth i a pa) (pth i b pb) pa.length x y ok) (ga : rg a) (gb : rg b) (gpa : ∀ x ∈ pa, rg x) (gpb : ∀ x ∈ pb, rg x) : rg x ∧ rg y := by
  rcases h with ⟨-, o, k, hk, -, -, rfl, rfl⟩ | ⟨-, rfl, rfl, -⟩
  · rw [cD_pth o.1 hk, cD_pth o.2.1 (by have := o.2.2.1; omega)]
    exact ⟨rg_entB ga gpa k, rg_entB gb gpb k⟩
  · exact ⟨rg_z 0, rg_z 0⟩
theorem pthC_len {i : Int} {x : List Int} {ps : List (List Int)} {l : List ((Option Addr × List Int × Nat) × List Int)} (h : ctH l = pth i x ps) : l.length ≤ 16 := by
  rw [← ctH_length, h, pth]
  split
  · rename_i o; rw [pthN_length]; exact o.1
  · simp
noncomputable def cd_lawBinds : Code := (Go.Proofs.Try.f6.body).getD .skip
def sg_lawBinds : List Arg := [.one (.int .i64), .ag [.arr .u8 32, .arr .u8 32, .slr 0, .slr 0]]
def pr_lawBinds : SgT FMp sg_lawBinds → List Prop
  | (i, ((a, (b, ((A, (pa, c)), ((B, (pb, e)), ())))), ())) => (fun (i : Int) (a b : List Int) (A : Option Addr) (pa : List (List Int)) (c : Nat) (B : Option Addr) (pb : List (List Int)) (e : Nat) => ([rg a, rg b, ∀ x ∈ pa, rg x, ∀ x ∈ pb, rg x] : List Prop)) i a b A pa c B pb e
def ps_lawBinds : SgT FMp sg_lawBinds → PS FMp
  | (i, ((a, (b, ((A, (pa, c)), ((B, (pb, e)), ())))), ())) => (fun (i : Int) (a b : List Int) (A : Option Addr) (pa : List (List Int)) (c : Nat) (B : Option Addr) (pb : List (List Int)) (e : Nat) => (⟨Unit, fun y => [], fun y => one (.bool (true)), fun y => [], fun y => []⟩ : PS FMp)) i a b A pa c B pb e
def la_lawBinds : SgT FMp sg_lawBinds → List (Nat × (SS FMp → HA FMp))
  | (i, ((a, (b, ((A, (pa, c)), ((B, (pb, e)), ())))), ())) => (fun (i : Int) (a b : List Int) (A : Option Addr) (pa : List (List Int)) (c : Nat) (B : Option Addr) (pb : List (List Int)) (e : Nat) => ([] : List (Nat × (SS FMp → HA FMp)))) i a b A pa c B pb e
def ca_lawBinds : SgT FMp sg_lawBinds → List (Nat × (SS FMp → HA FMp))
  | (i, ((a, (b, ((A, (pa, c)), ((B, (pb, e)), ())))), ())) => (fun (i : Int) (a b : List Int) (A : Option Addr) (pa : List (List Int)) (c : Nat) (B : Option Addr) (pb : List (List Int)) (e : Nat) => ([] : List (Nat × (SS FMp → HA FMp)))) i a b A pa c B pb e
theorem vc_lawBinds (i : Int) (a b : List Int) (A : Option Addr) (pa : List (List Int)) (c : Nat) (B : Option Addr) (pb : List (List Int)) (e : Nat) : Vc (vc (FM := FMp) Xp 87 [con_cpath, con_rcpath, con_cbind, con_rcbind, con_rcsame, con_same, con_anch05] (la_lawBinds (i, ((a, (b, ((A, (pa, c)), ((B, (pb, e)), ())))), ()))) (ca_lawBinds (i, ((a, (b, ((A, (pa, c)), ((B, (pb, e)), ())))), ()))) [] [] [.tmp 4] sg_lawBinds pr_lawBinds ps_lawBinds cd_lawBinds 300 (i, ((a, (b, ((A, (pa, c)), ((B, (pb, e)), ())))), ()))) := by
  refine ⟨Eq.mpr (β := a.length = (32 : Nat) → b.length = (32 : Nat) → (∀ (a : List Int), a ∈ pa → a.length = (32 : Nat)) → (∀ (a : List Int), a ∈ pb → a.length = (32 : Nat)) → rg a → rg b → (∀ (x : List Int), x ∈ pa → rg x) → (∀ (x : List Int), x ∈ pb → rg x) → ∀ (b_1 : Nat), pa.length = pa.length ∧ ∀ (y : Option Addr × Nat × List ((Option Addr × List Int × Nat) × List Int)), y.2.2.length = y.2.2.length → (∀ (a : (Option Addr × List Int × Nat) × List Int), a ∈ y.2.2 → a.2.length = (32 : Nat)) → ctH y.2.2 = pth i a pa → pa.length = pa.length ∧ rg a ∧ (∀ (a : List Int), a ∈ pa → rg a) ∧ ∀ (y_1 : Option Addr × Nat × List ((Option Addr × List Int × Nat) × List Int)), y_1.2.2.length = y_1.2.2.length → (∀ (a : (Option Addr × List Int × Nat) × List Int), a ∈ y_1.2.2 → a.2.length = (32 : Nat)) → ctH y_1.2.2 = pth i a pa → pa.length = pa.length ∧ pb.length = pb.length ∧ rg a ∧ rg b ∧ (∀ (x : List Int), x ∈ pa → rg x) ∧ (∀ (x : List Int), x ∈ pb → rg x) ∧ ∀ (y_2 : Option Addr × Option Addr × Nat × Nat × List Int × List Int × Bool), y_2.snd.snd.snd.2.1.length = y_2.snd.snd.snd.2.1.length → y_2.snd.snd.snd.snd.2.1.length = y_2.snd.snd.snd.snd.2.1.length → BR (bndOk i a pa b pb) (pth i a pa) (pth i b pb) pa.length y_2.snd.snd.snd.2.1 y_2.snd.snd.snd.snd.2.1 y_2.snd.snd.snd.snd.2.2 → pa.length = pa.length ∧ pb.length = pb.length ∧ rg a ∧ rg b ∧ (∀ (x : List Int), x ∈ pa → rg x) ∧ (∀ (x : List Int), x ∈ pb → rg x) ∧ ∀ (y_3 : Option Addr × Option Addr × Nat × Nat × List Int × List Int × Bool), y_3.snd.snd.snd.2.1.length = y_3.snd.snd.snd.2.1.length → y_3.snd.snd.snd.snd.2.1.length = y_3.snd.snd.snd.snd.2.1.length → BR (bndOk i a pa b pb) (pth i a pa) (pth i b pb) pa.length y_3.snd.snd.snd.2.1 y_3.snd.snd.snd.snd.2.1 y_3.snd.snd.snd.snd.2.2 → y.2.2.length = y.2.2.length ∧ (∀ (a : (Option Addr × List Int × Nat) × List Int), a ∈ y.2.2 → a ∈ y.2.2 ∨ a ∈ y_1.2.2) ∧ y_1.2.2.length = y_1.2.2.length ∧ (∀ (a : (Option Addr × List Int × Nat) × List Int), a ∈ y_1.2.2 → a ∈ y.2.2 ∨ a ∈ y_1.2.2) ∧ y.2.2.length ≤ (140737488355328 : Nat) ∧ (∀ (x : (Option Addr × List Int × Nat) × List Int), x ∈ y.2.2 → rg x.fst.2.1) ∧ (∀ (x : (Option Addr × List Int × Nat) × List Int), x ∈ y_1.2.2 → rg x.fst.2.1) ∧ ∀ (y_4 : Unit), ((decide (ctH y.2.2 = ctH y_1.2.2) && decide (fldE i pa.length = fldE i pa.length)) = true → y_2.snd.snd.snd.2.1.length = y_2.snd.snd.snd.2.1.length ∧ y_3.snd.snd.snd.2.1.length = y_3.snd.snd.snd.2.1.length ∧ rg y_2.snd.snd.snd.2.1 ∧ rg y_3.snd.snd.snd.2.1 ∧ ∀ (y : Unit), (decide (y_2.snd.snd.snd.2.1 = y_3.snd.snd.snd.2.1) = true → y_2.snd.snd.snd.snd.2.1.length = y_2.snd.snd.snd.snd.2.1.length ∧ y_3.snd.snd.snd.snd.2.1.length = y_3.snd.snd.snd.snd.2.1.length ∧ rg y_2.snd.snd.snd.snd.2.1 ∧ rg y_3.snd.snd.snd.snd.2.1 ∧ ∀ (y : Unit), ((decide (y_2.snd.snd.snd.snd.2.1 = y_3.snd.snd.snd.snd.2.1) && y_2.snd.snd.snd.snd.2.2 == y_3.snd.snd.snd.snd.2.2) = true → ∀ (y : Unit), ∃ (y : Unit), true = true) ∧ ((decide (y_2.snd.snd.snd.snd.2.1 = y_3.snd.snd.snd.snd.2.1) && y_2.snd.snd.snd.snd.2.2 == y_3.snd.snd.snd.snd.2.2) = false → ∃ (y : Unit), false = true)) ∧ (decide (y_2.snd.snd.snd.2.1 = y_3.snd.snd.snd.2.1) = false → ∃ (y : Unit), false = true)) ∧ ((decide (ctH y.2.2 = ctH y_1.2.2) && decide (fldE i pa.length = fldE i pa.length)) = false → ∃ (y : Unit), false = true)) (by kernel_rfl) ?_⟩
  simp only [imin, imax, decide_eq_true_eq, decide_eq_false_iff_not, Prod.forall, Prod.exists, exists_eq_left', exists_eq_left, exists_and_left, exists_and_right, exists_eq_right, exists_eq, exists_eq', true_and, and_true, forall_const, exists_const, eq_self, Bool.not_eq_true, Bool.not_eq_eq_eq_not, Bool.not_true, Bool.not_false, Value.slice.injEq, Option.getD_some, imp_self, implies_true, Option.some.injEq, Addr.mk.injEq, true_or, or_true, List.length_cons, List.length_nil, Nat.zero_add, Nat.reduceAdd]
  intro _ _ _ _ ga gb gpa gpb A1 q1 l hf h1
  refine ⟨ga, gpa, fun A2 q2 m hg h2 => ⟨ga, gb, gpa, gpb, fun _ _ _ _ x y ok hB => ⟨ga, gb, gpa, gpb, fun _ _ _ _ u v is hC => ?_⟩⟩⟩
  obtain ⟨rfl, rfl, rfl⟩ := BR_unique hB hC
  obtain ⟨gx, gy⟩ := BR_rg hB ga gb gpa gpb
  refine ⟨fun _ _ _ _ h => .inl h, fun _ _ _ _ h => .inr h, by have := pthC_len h1; omega, fun p q r s hm => rg_pth ga gpa h1 _ hm, fun p q r s hm => rg_pth ga gpa h2 _ hm, fun _ => ⟨gx, gx, fun _ => ⟨gy, gy, ?_⟩, fun h => (h rfl).elim⟩, fun h => ?_⟩
  · simp
  · rw [h1, h2] at h; simp at h
noncomputable def con_lawBinds : Con Xp.P FMp := ⟨6, sg_lawBinds, pr_lawBinds, ps_lawBinds, vc_ok (La := la_lawBinds) (Ca := ca_lawBinds) 300 (fn := Go.Proofs.Try.f6) (by kernel_rfl) (c := cd_lawBinds) (by kernel_rfl) (by kernel_rfl) (by kernel_rfl) (by kernel_rfl) (fun ⟨i, ⟨⟨a, ⟨b, ⟨⟨A, ⟨pa, c⟩⟩, ⟨⟨B, ⟨pb, e⟩⟩, ⟨⟩⟩⟩⟩⟩, ⟨⟩⟩⟩ => vc_lawBinds i a b A pa c B pb e)⟩
theorem law_lawBinds (W : World) (i : Int) (a b : List Int) (A : Option Addr) (pa : List (List Int)) (c : Nat) (B : Option Addr) (pb : List (List Int)) (e : Nat) (ha : a.length = 32) (hb : b.length = 32) (hpa : ∀ x ∈ pa, x.length = 32) (hpb : ∀ x ∈ pb, x.length = 32) (hRa : Rd W A (fden fmHash pa ++ [])) (hRb : Rd W B (fden fmHash pb ++ [])) (ga : rg a) (gb : rg b) (gpa : ∀ x ∈ pa, rg x) (gpb : ∀ x ∈ pb, rg x) : Calls Go.Proofs.Try.prog 6 #[.int .i64 i, .agg (iv .u8 a ++ (iv .u8 b ++ ([Value.slice A pa.length c] ++ ([Value.slice B pb.length e] ++ [])))).toArray] W (fun e w' => e = .returned (.bool true) ∧ Hp no W w' []) := by
  have hy : All (sgHy (FM := FMp) sg_lawBinds (i, ((a, (b, ((A, (pa, c)), ((B, (pb, e)), ())))), ()))) := ⟨ha, hb, hpa, hpb, trivial⟩
  have hrk : ROk (FM := FMp) (sgBd (FM := FMp) sg_lawBinds (i, ((a, (b, ((A, (pa, c)), ((B, (pb, e)), ())))), ())) 0).1 W (sgBd (FM := FMp) sg_lawBinds (i, ((a, (b, ((A, (pa, c)), ((B, (pb, e)), ())))), ())) 0).2 := ⟨⟨hRa, ⟨fun a _ => fmRd.flat rfl W a, trivial⟩⟩, ⟨hRb, ⟨fun a _ => fmRd.flat rfl W a, trivial⟩⟩, trivial⟩
  have hpr : All (pr_lawBinds (i, ((a, (b, ((A, (pa, c)), ((B, (pb, e)), ())))), ()))) := ⟨ga, gb, gpa, gpb, trivial⟩
  have h0 : Calls Xp.P 6 #[.int .i64 i, .agg (iv .u8 a ++ (iv .u8 b ++ ([Value.slice A pa.length c] ++ ([Value.slice B pb.length e] ++ [])))).toArray] W ((ps_lawBinds (i, ((a, (b, ((A, (pa, c)), ((B, (pb, e)), ())))), ()))).R no W) := con_lawBinds.ok W (i, ((a, (b, ((A, (pa, c)), ((B, (pb, e)), ())))), ())) hy hrk hpr
  have h1 : Calls Xp.P 6 #[.int .i64 i, .agg (iv .u8 a ++ (iv .u8 b ++ ([Value.slice A pa.length c] ++ ([Value.slice B pb.length e] ++ [])))).toArray] W (fun e w' => e = .returned (.bool true) ∧ Hp no W w' []) := h0.mono fun e w' h => by
    obtain ⟨_, h1, _, _, h2, _⟩ := h
    exact ⟨h1, h2⟩
  rw [XpP] at h1
  exact h1

end Go.Pw
