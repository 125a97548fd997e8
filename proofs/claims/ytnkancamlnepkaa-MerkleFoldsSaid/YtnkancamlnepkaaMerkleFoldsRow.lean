/-
  The law MerkleFolds holds at every input: what a proof folds to, checks and swaps, is as the document says. Its conditions: none beside the statement's own.
-/
import Derived.Test.YtnkancamlnepkaaRows
import Derived.Test.YtnkancamlnepkaaMe5
import Derived.Test.YtnkancamlnepkaaOpen
import Derived.WalkKit
import Derived.ProofKit
import Derived.OpenShut
import Derived.ShutString
import Derived.ChangeOld
import Derived.Below
import Derived.SizedLaws
namespace Go.Proofs.Ytnkancamlnepkaa.merkleFoldsDone
open Go.ChangeShapes Go.WideShapes Go.ChangeAt Go.RowKit Go.Px Go.Proofs.Ytnkancamlnepkaa
open Go.ChangeMaps (open_string shut_string)
set_option linter.all false

open Go.Pw
theorem okHash {cs : List Value} (h : OkC (List.replicate 32 (.int .u8)) cs) : ∃ a : List Int, cs = iv .u8 a ∧ (a.length = 32 ∧ rg a) := by
  obtain ⟨a, rfl, h1, h2⟩ := okC_iv h
  exact ⟨a, rfl, h1, get_of_mem (p := fun x => 0 ≤ x ∧ x < 256) (by omega) (fun z hz => wfU8 (h2 z hz))⟩
theorem flat_hash (l : List (List Int)) : (l.flatMap fun a => iv .u8 a) = fden fmHash l := by
  induction l with
  | nil => rfl
  | cons a l ih => rw [List.flatMap_cons, ih]; show iv .u8 a ++ _ = (iv .u8 a ++ []) ++ fden fmHash l; rw [List.append_nil]

theorem own : ownKnob Try.prog.godebug = none := by kernel_rfl
theorem laidOut : laidOutB Try.prog = true := by kernel_rfl

set_option maxRecDepth 100000 in
set_option maxHeartbeats 4000000 in
theorem lifted (os : Os) (started : os.Started) (H : Type) (enc : TypeId × Value → H) :
    ReturnsInHanded {} Try.checked os 10 .any (Rows.merkleFoldsSpec.pre6 enc Try.prog Try.f10 Rows.merkleFoldsRow.domain false) (Rows.merkleFoldsSpec.post enc Try.prog Try.f10 false true false false) := by
  refine returnsInHanded_of_change_sized (C := Try.checked) own started (by kernel_rfl) Try.func10
    (ChangeSpec.witness6 (enc := enc) (C := Try.checked) false ⟨#[], #[.int .i64 0, .agg (Array.replicate 96 (.int .u8 0)), .slice none 0 0], []⟩ 8 (by kernel_rfl) (by kernel_rfl) (by kernel_rfl) (by kernel_rfl)) ?_
  intro W base args ds gs before hval0 hW hcnd hsz0 _
  have hval : ∀ (j : Nat) t v, Try.f10.params[j]? = some t → args[j]? = some v → Value.okWide Try.prog W .any base t v := hval0
  have hW' := hW
  obtain ⟨p, q, hA0, hV, rfl, hfz, hnd⟩ := hW
  have hA : DataW.TrodAll enc Try.prog W 0 (fun _ => true) true Try.f10.params.toList args.toList ds p := hA0
  have hsz : (DataW.weightsEach Try.prog (Try.f10.params.toList ++ Rows.merkleFoldsSpec.plain.varTypes Try.prog) (ds ++ gs)).all (· ≤ reachBytes) = true := hsz0
  have hpa : Try.f10.params = #[3, 97, 38] := by kernel_rfl
  rw [hpa] at hA hval hsz
  obtain ⟨v0, vs0, d0, ds0, p0, q0, hargs, rfl, rfl, h0, r0⟩ := trodAll_cons hA
  obtain ⟨v1, vs1, d1, ds1, p1, q1, rfl, rfl, rfl, h1, r1⟩ := trodAll_cons r0
  obtain ⟨v2, vs2, d2, ds2, p2, q2, rfl, rfl, rfl, h2, r2⟩ := trodAll_cons r1
  obtain ⟨rfl, rfl, rfl⟩ := trodAll_nil r2
  obtain rfl : args = #[v0, v1, v2] := by cases args; simp_all
  obtain ⟨rfl, rfl⟩ := trodVars_none hV
  have k0 := h0
  have lt0 : ∀ x ∈ p0, x.block < W.heap.size := by obtain ⟨m, hm⟩ := k0; exact DataW.trod_lt m _ _ _ hm
  have u0 := hval 0 3 v0 rfl rfl
  obtain ⟨i, rfl, -, -, hwi⟩ := open_int (show Try.prog.underlying 3 = some (.int .i64) by kernel_rfl) u0 h0
  have k1 := h1
  have lt1 : ∀ x ∈ p1, x.block < W.heap.size := by obtain ⟨m, hm⟩ := k1; exact DataW.trod_lt m _ _ _ hm
  have u1 := hval 1 97 v1 rfl rfl
  obtain ⟨cs1, rfl, hc1⟩ := open_str (by kernel_rfl) (show flatK Try.prog 20 97 = some (List.replicate 32 (CK.int .u8) ++ (List.replicate 32 (CK.int .u8) ++ (List.replicate 32 (CK.int .u8)))) by kernel_rfl) u1 h1
  obtain ⟨e01, f01, rfl, g01, k01⟩ := okC_split (ka := List.replicate 32 (CK.int .u8)) hc1
  obtain ⟨x, rfl, hxl, hxg⟩ := okHash g01
  obtain ⟨e11, f11, rfl, g11, k11⟩ := okC_split (ka := List.replicate 32 (CK.int .u8)) k01
  obtain ⟨z, rfl, hzl, hzg⟩ := okHash g11
  obtain ⟨r, rfl, hrl, hrg⟩ := okHash k11
  have k2 := h2
  have lt2 : ∀ x ∈ p2, x.block < W.heap.size := by obtain ⟨m, hm⟩ := k2; exact DataW.trod_lt m _ _ _ hm
  have u2 := hval 2 38 v2 rfl rfl
  obtain ⟨A2, css2, sps2, rfl, hr2, hr2', hR2, hd2⟩ := open_slr (show Try.prog.underlying 38 = some (.slice 35) by kernel_rfl) (show flatK Try.prog 20 35 = some (List.replicate 32 (.int .u8)) by kernel_rfl) (of_decide_eq_true (by kernel_rfl)) u2 h2
  obtain ⟨ps, hf2, hn2, hk2⟩ := rows_as (form := fun a : List Int => iv .u8 a) (ok := fun a : List Int => a.length = 32 ∧ rg a) (fun cs h => okHash h) hr2
  rw [List.flatten_append, hf2, flat_hash] at hR2
  have hpsl : ∀ a ∈ ps, a.length = 32 := fun a ha => (hk2 a ha).1
  have hpsg : ∀ a ∈ ps, rg a := fun a ha => (hk2 a ha).2
  have hpsn : ps.length ≤ 4398046511104 := by
    rw [hn2]
    rcases hd2 with ⟨-, hz, -, -⟩ | ⟨es, sp, rfl, e1, e2⟩
    · simp [hz]
    · have := sized_slice (e := 35) hsz (j := 2) (t := 38) rfl rfl (show Try.prog.underlying 38 = some (.slice 35) by kernel_rfl)
      rw [show Try.prog.bytesOf 35 = 32 by kernel_rfl] at this
      simp only [reachBytes] at this
      omega
  have hRd : Rd W A2 (fden fmHash ps ++ []) := by rw [List.append_nil]; exact hR2.left
  have hw := law_lawFolds W i x z r A2 ps (css2.length + sps2.length) hxl hzl hrl hpsl hRd hxg hzg hpsg
  rw [hn2] at hw
  clear hA0 hval0 hsz0
  refine (hw).mono fun e W' ⟨he, hH⟩ => ?_
  subst he
  exact ⟨_, rfl, _, _, _, [], _, [], hW', trodAll_mk1 (shut_bool (show Try.prog.underlying 4 = some .bool by kernel_rfl) _), (trodAll_cons_mk (Below.trod laidOut (by kernel_rfl) (of_decide_eq_true (by kernel_rfl)) k0 hH.below lt0) (trodAll_cons_mk (Below.trod laidOut (by kernel_rfl) (of_decide_eq_true (by kernel_rfl)) k1 hH.below lt1) (trodAll_cons_mk (Below.trod laidOut (by kernel_rfl) (of_decide_eq_true (by kernel_rfl)) k2 hH.below lt2) trodAll_mk0))), rfl, hH.below.frame _, fun h => by cases h⟩

theorem over : Rows.merkleFoldsRow.holds Try.pinned (OpenSpec.ofChange Rows.merkleFoldsSpec) :=
  OpenClaim.holds_of_wide 10 Try.f10 rfl rfl rfl rfl rfl rfl rfl ⟨rfl, rfl, rfl, rfl, rfl⟩ rfl rfl rfl rfl rfl (by kernel_rfl) Try.func10 (by kernel_rfl)
    (of_decide_eq_true (by kernel_rfl)) (by unfold Func.isWrapper; first | (rw [if_pos (by decide +kernel)]; kernel_rfl) | (rw [if_neg (by decide +kernel)]; exact ⟨rfl, rfl⟩))
    (fun os started H enc _ => lifted os started H enc)

/-- The statement. -/
theorem proved : Rows.MerkleFoldsSaid := over
#print axioms proved
end Go.Proofs.Ytnkancamlnepkaa.merkleFoldsDone
