/-
  Walks by computing. No condition.
-/
import Derived.Test.YtnkancamlnepkaaCo5
set_option linter.all false
set_option maxRecDepth 100000
set_option maxHeartbeats 1000000
namespace Go.Pw
open Go Go.Px Go.RowKit
attribute [local irreducible] shaF


theorem cD_pth {i : Int} {x : List Int} {ps : List (List Int)} (o : fldOk i ps.length) {k : Nat} (h : k < ps.length) : cD (pth i x ps) k = ent i.toNat ps x k := by
  rw [cD, pth, if_pos o, getD_lt (by rw [pthN_length]; exact h)]
  simp [pthN]
theorem BR_rg {i : Int} {a b x y : List Int} {pa pb : List (List Int)} {ok : Bool} (h : BR (bndOk i a pa b pb) (pth i a pa) (pth i b pb) pa.length x y ok) (ga : rg a) (gb : rg b) (gpa : ∀ x ∈ pa, rg x) (gpb : ∀ x ∈ pb, rg x) : rg x ∧ rg y := by
  rcases h with ⟨-, o, k, hk, -, -, rfl, rfl⟩ | ⟨-, rfl, rfl, -⟩
  · rw [cD_pth o.1 hk, cD_pth o.2.1 (by have := o.2.2.1; omega)]
    exact ⟨rg_entB ga gpa k, rg_entB gb gpb k⟩
  · exact ⟨rg_z 0, rg_z 0⟩
theorem pthC_len {i : Int} {x : List Int} {ps : List (List Int)} {l : List ((Option Addr × List Int × Nat) × List Int)} (h : ctH l = pth i x ps) : l.length ≤ 16 := by
  rw [← ctH_length, h, pth]
  split
  · rename_i o; rw [pthN_length]; exact o.1
  · simp

theorem entB_length {i : Nat} {x : List Int} {ps : List (List Int)} (hx : x.length = 32) (hp : ∀ a ∈ ps, a.length = 32) {k : Nat} (h : k < ps.length) : (entB i ps x k).length = 65 := by
  have h1 := fldN_length (i := i) (ps := ps) hx k
  have h2 : (ps.getD k (List.replicate 32 0)).length = 32 := by rw [getD_lt h]; exact hp _ (List.getElem_mem h)
  unfold entB; split <;> simp only [List.length_append, h1, h2] <;> rfl
theorem entB_inj {i : Nat} {a b : List Int} {pa pb : List (List Int)} (ha : a.length = 32) (hb : b.length = 32) (hpa : ∀ a ∈ pa, a.length = 32) (hpb : ∀ a ∈ pb, a.length = 32) {k : Nat} (h : k < pa.length) (h' : k < pb.length) (he : entB i pa a k = entB i pb b k) : fldN i pa a k = fldN i pb b k ∧ pa.getD k (List.replicate 32 0) = pb.getD k (List.replicate 32 0) := by
  have h1 := fldN_length (i := i) (ps := pa) ha k
  have h2 := fldN_length (i := i) (ps := pb) hb k
  have h3 : (pa.getD k (List.replicate 32 0)).length = 32 := by rw [getD_lt h]; exact hpa _ (List.getElem_mem h)
  have h4 : (pb.getD k (List.replicate 32 0)).length = 32 := by rw [getD_lt h']; exact hpb _ (List.getElem_mem h')
  unfold entB at he
  split at he
  · rw [List.append_assoc, List.append_assoc] at he
    exact List.append_inj (List.append_inj he rfl).2 (by rw [h1, h2])
  · rw [List.append_assoc, List.append_assoc] at he
    exact (List.append_inj (List.append_inj he rfl).2 (by rw [h3, h4])).symm
theorem down {i : Nat} {a b : List Int} {pa pb : List (List Int)} (ha : a.length = 32) (hb : b.length = 32) (hpa : ∀ a ∈ pa, a.length = 32) (hpb : ∀ a ∈ pb, a.length = 32) (hl : pa.length = pb.length) : ∀ m, m ≤ pa.length → (∀ j, j < m → (ent i pa a j).2 = (ent i pb b j).2 → (ent i pa a j).1 = (ent i pb b j).1) → fldN i pa a m = fldN i pb b m → a = b ∧ ∀ j, j < m → pa.getD j (List.replicate 32 0) = pb.getD j (List.replicate 32 0)
  | 0, _, _, h => ⟨h, fun _ h => by omega⟩
  | m + 1, hm, hn, h => by
    obtain ⟨e1, e2⟩ := entB_inj ha hb hpa hpb (by omega) (by omega) (hn m (by omega) h)
    obtain ⟨f1, f2⟩ := down ha hb hpa hpb hl m (by omega) (fun j hj => hn j (by omega)) e1
    refine ⟨f1, fun j hj => ?_⟩
    by_cases e : j = m
    · subst e; exact e2
    · exact f2 j (by omega)
theorem lastS_fld {i : Int} {x : List Int} {ps : List (List Int)} (o : fldOk i ps.length) (hz : ps.length ≠ 0) : lastS (pth i x ps) = fldH i x ps := by
  rw [lastS, pth_len o, cD_pth o (by omega), fldH, if_pos o]
  show fldN i.toNat ps x (ps.length - 1 + 1) = _
  rw [show ps.length - 1 + 1 = ps.length by omega]
theorem only_of {i : Int} {a b x y : List Int} {pa pb : List (List Int)} {ok : Bool} (ha : a.length = 32) (hb : b.length = 32) (hpa : ∀ a ∈ pa, a.length = 32) (hpb : ∀ a ∈ pb, a.length = 32) (h : BR (bndOk i a pa b pb) (pth i a pa) (pth i b pb) pa.length x y ok) :
    (ok = true → x ≠ y ∧ shaF x = shaF y ∧ x.length = 65 ∧ y.length = 65) ∧ (ok = true ↔ fldE i pa.length = 0 ∧ fldE i pb.length = 0 ∧ fldH i a pa = fldH i b pb ∧ pa.length = pb.length ∧ ¬ (a = b ∧ pa = pb)) := by
  simp only [fldE0]
  rcases h with ⟨rfl, o, k, hk, hc, -, rfl, rfl⟩ | ⟨rfl, rfl, rfl, hn⟩
  · have hk' : k < pb.length := by have := o.2.2.1; omega
    have hc' := hc
    rw [bcol, cD_pth o.1 hk, cD_pth o.2.1 hk'] at hc'
    rw [cD_pth o.1 hk, cD_pth o.2.1 hk']
    refine ⟨fun _ => ⟨hc'.2, by rw [← entS, ← entS]; exact hc'.1, entB_length ha hpa hk, entB_length hb hpb hk'⟩, fun _ => ⟨o.1, o.2.1, ?_, o.2.2.1, ?_⟩, fun _ => rfl⟩
    · rw [← lastS_fld o.1 (by omega), ← lastS_fld o.2.1 (by omega)]; exact o.2.2.2.2
    · rintro ⟨rfl, rfl⟩
      exact hc.2 rfl
  · refine ⟨fun h => by simp at h, fun h => by simp at h, fun ⟨h1, h2, h3, h4, h5⟩ => (h5 ?_).elim⟩
    by_cases hz : pa.length = 0
    · have e1 : pa = [] := List.eq_nil_of_length_eq_zero hz
      have e2 : pb = [] := List.eq_nil_of_length_eq_zero (by omega)
      subst e1 e2
      rw [fldH, fldH, if_pos h1, if_pos h2] at h3
      exact ⟨h3, rfl⟩
    · have o : bndOk i a pa b pb := ⟨h1, h2, h4, hz, by rw [lastS_fld h1 hz, lastS_fld h2 (by omega)]; exact h3⟩
      have hn := hn o
      rw [fldH, fldH, if_pos h1, if_pos h2, ← h4] at h3
      obtain ⟨e1, e2⟩ := down ha hb hpa hpb h4 pa.length (Nat.le_refl _) (fun j hj hs => by
        have := hn j hj
        rw [bcol, cD_pth h1 hj, cD_pth h2 (by omega)] at this
        exact Classical.byContradiction fun hne => this ⟨hs, hne⟩) h3
      refine ⟨e1, List.ext_getElem h4 fun j g1 g2 => ?_⟩
      have := e2 j g1
      rwa [getD_lt g1, getD_lt g2] at this
noncomputable def cd_lawOnly : Code := (Go.Proofs.Try.f7.body).getD .skip
def sg_lawOnly : List Arg := [.one (.int .i64), .ag [.arr .u8 32, .arr .u8 32, .slr 0, .slr 0]]
def pr_lawOnly : SgT FMp sg_lawOnly → List Prop
  | (i, ((a, (b, ((A, (pa, c)), ((B, (pb, e)), ())))), ())) => (fun (i : Int) (a b : List Int) (A : Option Addr) (pa : List (List Int)) (c : Nat) (B : Option Addr) (pb : List (List Int)) (e : Nat) => ([rg a, rg b, ∀ x ∈ pa, rg x, ∀ x ∈ pb, rg x, pa.length ≤ 140737488355328] : List Prop)) i a b A pa c B pb e
def ps_lawOnly : SgT FMp sg_lawOnly → PS FMp
  | (i, ((a, (b, ((A, (pa, c)), ((B, (pb, e)), ())))), ())) => (fun (i : Int) (a b : List Int) (A : Option Addr) (pa : List (List Int)) (c : Nat) (B : Option Addr) (pb : List (List Int)) (e : Nat) => (⟨Unit, fun y => [], fun y => one (.bool (true)), fun y => [], fun y => []⟩ : PS FMp)) i a b A pa c B pb e
def la_lawOnly : SgT FMp sg_lawOnly → List (Nat × (SS FMp → HA FMp))
  | (i, ((a, (b, ((A, (pa, c)), ((B, (pb, e)), ())))), ())) => (fun (i : Int) (a b : List Int) (A : Option Addr) (pa : List (List Int)) (c : Nat) (B : Option Addr) (pb : List (List Int)) (e : Nat) => ([] : List (Nat × (SS FMp → HA FMp)))) i a b A pa c B pb e
def ca_lawOnly : SgT FMp sg_lawOnly → List (Nat × (SS FMp → HA FMp))
  | (i, ((a, (b, ((A, (pa, c)), ((B, (pb, e)), ())))), ())) => (fun (i : Int) (a b : List Int) (A : Option Addr) (pa : List (List Int)) (c : Nat) (B : Option Addr) (pb : List (List Int)) (e : Nat) => ([] : List (Nat × (SS FMp → HA FMp)))) i a b A pa c B pb e
theorem vc_lawOnly (i : Int) (a b : List Int) (A : Option Addr) (pa : List (List Int)) (c : Nat) (B : Option Addr) (pb : List (List Int)) (e : Nat) : Vc (vc (FM := FMp) Xp 99 [con_rfold, con_cbind, con_same, con_rsum, con_rsame, con_anch05] (la_lawOnly (i, ((a, (b, ((A, (pa, c)), ((B, (pb, e)), ())))), ()))) (ca_lawOnly (i, ((a, (b, ((A, (pa, c)), ((B, (pb, e)), ())))), ()))) [] [] [.tmp 4] sg_lawOnly pr_lawOnly ps_lawOnly cd_lawOnly 300 (i, ((a, (b, ((A, (pa, c)), ((B, (pb, e)), ())))), ()))) := by
  refine ⟨Eq.mpr (β := a.length = (32 : Nat) → b.length = (32 : Nat) → (∀ (a : List Int), a ∈ pa → a.length = (32 : Nat)) → (∀ (a : List Int), a ∈ pb → a.length = (32 : Nat)) → rg a → rg b → (∀ (x : List Int), x ∈ pa → rg x) → (∀ (x : List Int), x ∈ pb → rg x) → pa.length ≤ (140737488355328 : Nat) → ∀ (b_1 : Nat), pa.length = pa.length ∧ rg a ∧ (∀ (a : List Int), a ∈ pa → rg a) ∧ ∀ (y : Unit), (fldH i a pa).length = (32 : Nat) → (fldH i a pa).length = (32 : Nat) → ∀ (b_2 : Nat), pb.length = pb.length ∧ rg b ∧ (∀ (a : List Int), a ∈ pb → rg a) ∧ ∀ (y : Unit), (fldH i b pb).length = (32 : Nat) → (fldH i b pb).length = (32 : Nat) → ∀ (b_3 : Nat), pa.length = pa.length ∧ pb.length = pb.length ∧ rg a ∧ rg b ∧ (∀ (x : List Int), x ∈ pa → rg x) ∧ (∀ (x : List Int), x ∈ pb → rg x) ∧ ∀ (y : Option Addr × Option Addr × Nat × Nat × List Int × List Int × Bool), y.snd.snd.snd.2.1.length = y.snd.snd.snd.2.1.length → y.snd.snd.snd.snd.2.1.length = y.snd.snd.snd.snd.2.1.length → BR (bndOk i a pa b pb) (pth i a pa) (pth i b pb) pa.length y.snd.snd.snd.2.1 y.snd.snd.snd.snd.2.1 y.snd.snd.snd.snd.2.2 → (y.snd.snd.snd.snd.2.2 = true → y.snd.snd.snd.2.1.length = y.snd.snd.snd.2.1.length ∧ y.snd.snd.snd.snd.2.1.length = y.snd.snd.snd.snd.2.1.length ∧ rg y.snd.snd.snd.2.1 ∧ rg y.snd.snd.snd.snd.2.1 ∧ ∀ (y_1 : Unit), (decide (y.snd.snd.snd.2.1 = y.snd.snd.snd.snd.2.1) = true → ∃ (y : Unit), false = true) ∧ (decide (y.snd.snd.snd.2.1 = y.snd.snd.snd.snd.2.1) = false → y.snd.snd.snd.2.1.length = y.snd.snd.snd.2.1.length ∧ y.snd.snd.snd.2.1.length ≤ (140737488355000 : Nat) ∧ (∀ (j : Nat), (0 : Int) ≤ y.snd.snd.snd.2.1.getD j (0 : Int) ∧ y.snd.snd.snd.2.1.getD j (0 : Int) < (256 : Int)) ∧ ∀ (y_2 : Unit), (shaF y.snd.snd.snd.2.1).length = (32 : Nat) → (shaF y.snd.snd.snd.2.1).length = (32 : Nat) → y.snd.snd.snd.snd.2.1.length = y.snd.snd.snd.snd.2.1.length ∧ y.snd.snd.snd.snd.2.1.length ≤ (140737488355000 : Nat) ∧ (∀ (j : Nat), (0 : Int) ≤ y.snd.snd.snd.snd.2.1.getD j (0 : Int) ∧ y.snd.snd.snd.snd.2.1.getD j (0 : Int) < (256 : Int)) ∧ ∀ (y_3 : Unit), (shaF y.snd.snd.snd.snd.2.1).length = (32 : Nat) → (shaF y.snd.snd.snd.snd.2.1).length = (32 : Nat) → ((!decide (shaF y.snd.snd.snd.2.1 = shaF y.snd.snd.snd.snd.2.1)) = true → ∃ (y : Unit), false = true) ∧ ((!decide (shaF y.snd.snd.snd.2.1 = shaF y.snd.snd.snd.snd.2.1)) = false → (decide (a = b) = true → pa.length = pa.length ∧ pb.length = pb.length ∧ pa.length ≤ (140737488355328 : Nat) ∧ ∀ (y_4 y_5 : Unit), ∃ (y_6 : Unit), (true && y.snd.snd.snd.snd.2.2 == (decide (fldE i pa.length = (0 : Int)) && decide (fldE i pb.length = (0 : Int)) && decide (fldH i a pa = fldH i b pb) && decide ((↑pa.length : Int) = (↑pb.length : Int)) && !decide (pa = pb))) = true) ∧ (decide (a = b) = false → ∀ (y_4 : Unit), ∃ (y_5 : Unit), (true && y.snd.snd.snd.snd.2.2 == (decide (fldE i pa.length = (0 : Int)) && decide (fldE i pb.length = (0 : Int)) && decide (fldH i a pa = fldH i b pb) && decide ((↑pa.length : Int) = (↑pb.length : Int)) || false)) = true)))) ∧ (y.snd.snd.snd.snd.2.2 = false → (decide (a = b) = true → pa.length = pa.length ∧ pb.length = pb.length ∧ pa.length ≤ (140737488355328 : Nat) ∧ ∀ (y_1 y_2 : Unit), ∃ (y_3 : Unit), (true && y.snd.snd.snd.snd.2.2 == (decide (fldE i pa.length = (0 : Int)) && decide (fldE i pb.length = (0 : Int)) && decide (fldH i a pa = fldH i b pb) && decide ((↑pa.length : Int) = (↑pb.length : Int)) && !decide (pa = pb))) = true) ∧ (decide (a = b) = false → ∀ (y_1 : Unit), ∃ (y_2 : Unit), (true && y.snd.snd.snd.snd.2.2 == (decide (fldE i pa.length = (0 : Int)) && decide (fldE i pb.length = (0 : Int)) && decide (fldH i a pa = fldH i b pb) && decide ((↑pa.length : Int) = (↑pb.length : Int)) || false)) = true))) (by kernel_rfl) ?_⟩
  simp only [imin, imax, decide_eq_true_eq, decide_eq_false_iff_not, Prod.forall, Prod.exists, exists_eq_left', exists_eq_left, exists_and_left, exists_and_right, exists_eq_right, exists_eq, exists_eq', true_and, and_true, forall_const, exists_const, eq_self, Bool.not_eq_true, Bool.not_eq_eq_eq_not, Bool.not_true, Bool.not_false, Value.slice.injEq, Option.getD_some, imp_self, implies_true, Option.some.injEq, Addr.mk.injEq, true_or, or_true, List.length_cons, List.length_nil, Nat.zero_add, Nat.reduceAdd]
  intro ha hb hpa hpb ga gb gpa gpb hn
  refine ⟨ga, gpa, fun _ _ => ⟨gb, gpb, fun _ _ => ⟨ga, gb, gpa, gpb, fun x y ok hB => ?_⟩⟩⟩
  obtain ⟨h1, h2⟩ := only_of ha hb hpa hpb hB
  obtain ⟨gx, gy⟩ := BR_rg hB ga gb gpa gpb
  have hI : ((pa.length : Int) = pb.length) ↔ pa.length = pb.length := by omega
  have e1 : a = b → pa.length ≤ 140737488355328 ∧ (true && ok == (decide (fldE i pa.length = 0) && decide (fldE i pb.length = 0) && decide (fldH i a pa = fldH i b pb) && decide ((pa.length : Int) = (pb.length : Int)) && !decide (pa = pb))) = true := by
    intro e
    refine ⟨hn, ?_⟩
    rw [Bool.true_and, beq_iff_eq, Bool.eq_iff_iff, h2]
    simp only [Bool.and_eq_true, decide_eq_true_eq, Bool.not_eq_true', decide_eq_false_iff_not, hI]
    exact ⟨fun ⟨a1, a2, a3, a4, a5⟩ => ⟨⟨⟨⟨a1, a2⟩, a3⟩, a4⟩, fun h => a5 ⟨e, h⟩⟩, fun ⟨⟨⟨⟨a1, a2⟩, a3⟩, a4⟩, a5⟩ => ⟨a1, a2, a3, a4, fun h => a5 h.2⟩⟩
  have e2 : ¬ a = b → (true && ok == (decide (fldE i pa.length = 0) && decide (fldE i pb.length = 0) && decide (fldH i a pa = fldH i b pb) && decide ((pa.length : Int) = (pb.length : Int)) || false)) = true := by
    intro e
    rw [Bool.true_and, beq_iff_eq, Bool.or_false, Bool.eq_iff_iff, h2]
    simp only [Bool.and_eq_true, decide_eq_true_eq, hI]
    exact ⟨fun ⟨a1, a2, a3, a4, a5⟩ => ⟨⟨⟨a1, a2⟩, a3⟩, a4⟩, fun ⟨⟨⟨a1, a2⟩, a3⟩, a4⟩ => ⟨a1, a2, a3, a4, fun h => e h.1⟩⟩
  refine ⟨fun ho => ?_, fun _ => ⟨e1, e2⟩⟩
  obtain ⟨k1, k2, k3, k4⟩ := h1 ho
  exact ⟨gx, gy, fun h => (k1 h).elim, fun _ => ⟨by omega, gx, fun _ _ => ⟨by omega, gy, fun _ _ => ⟨fun h => (h k2).elim, fun _ => ⟨e1, e2⟩⟩⟩⟩⟩
noncomputable def con_lawOnly : Con Xp.P FMp := ⟨7, sg_lawOnly, pr_lawOnly, ps_lawOnly, vc_ok (La := la_lawOnly) (Ca := ca_lawOnly) 300 (fn := Go.Proofs.Try.f7) (by kernel_rfl) (c := cd_lawOnly) (by kernel_rfl) (by kernel_rfl) (by kernel_rfl) (by kernel_rfl) (fun ⟨i, ⟨⟨a, ⟨b, ⟨⟨A, ⟨pa, c⟩⟩, ⟨⟨B, ⟨pb, e⟩⟩, ⟨⟩⟩⟩⟩⟩, ⟨⟩⟩⟩ => vc_lawOnly i a b A pa c B pb e)⟩
theorem law_lawOnly (W : World) (i : Int) (a b : List Int) (A : Option Addr) (pa : List (List Int)) (c : Nat) (B : Option Addr) (pb : List (List Int)) (e : Nat) (ha : a.length = 32) (hb : b.length = 32) (hpa : ∀ x ∈ pa, x.length = 32) (hpb : ∀ x ∈ pb, x.length = 32) (hRa : Rd W A (fden fmHash pa ++ [])) (hRb : Rd W B (fden fmHash pb ++ [])) (ga : rg a) (gb : rg b) (gpa : ∀ x ∈ pa, rg x) (gpb : ∀ x ∈ pb, rg x) (hn : pa.length ≤ 140737488355328) : Calls Go.Proofs.Try.prog 7 #[.int .i64 i, .agg (iv .u8 a ++ (iv .u8 b ++ ([Value.slice A pa.length c] ++ ([Value.slice B pb.length e] ++ [])))).toArray] W (fun e w' => e = .returned (.bool true) ∧ Hp no W w' []) := by
  have hy : All (sgHy (FM := FMp) sg_lawOnly (i, ((a, (b, ((A, (pa, c)), ((B, (pb, e)), ())))), ()))) := ⟨ha, hb, hpa, hpb, trivial⟩
  have hrk : ROk (FM := FMp) (sgBd (FM := FMp) sg_lawOnly (i, ((a, (b, ((A, (pa, c)), ((B, (pb, e)), ())))), ())) 0).1 W (sgBd (FM := FMp) sg_lawOnly (i, ((a, (b, ((A, (pa, c)), ((B, (pb, e)), ())))), ())) 0).2 := ⟨⟨hRa, ⟨fun a _ => fmRd.flat rfl W a, trivial⟩⟩, ⟨hRb, ⟨fun a _ => fmRd.flat rfl W a, trivial⟩⟩, trivial⟩
  have hpr : All (pr_lawOnly (i, ((a, (b, ((A, (pa, c)), ((B, (pb, e)), ())))), ()))) := ⟨ga, gb, gpa, gpb, hn, trivial⟩
  have h0 : Calls Xp.P 7 #[.int .i64 i, .agg (iv .u8 a ++ (iv .u8 b ++ ([Value.slice A pa.length c] ++ ([Value.slice B pb.length e] ++ [])))).toArray] W ((ps_lawOnly (i, ((a, (b, ((A, (pa, c)), ((B, (pb, e)), ())))), ()))).R no W) := con_lawOnly.ok W (i, ((a, (b, ((A, (pa, c)), ((B, (pb, e)), ())))), ())) hy hrk hpr
  have h1 : Calls Xp.P 7 #[.int .i64 i, .agg (iv .u8 a ++ (iv .u8 b ++ ([Value.slice A pa.length c] ++ ([Value.slice B pb.length e] ++ [])))).toArray] W (fun e w' => e = .returned (.bool true) ∧ Hp no W w' []) := h0.mono fun e w' h => by
    obtain ⟨_, h1, _, _, h2, _⟩ := h
    exact ⟨h1, h2⟩
  rw [XpP] at h1
  exact h1

end Go.Pw
