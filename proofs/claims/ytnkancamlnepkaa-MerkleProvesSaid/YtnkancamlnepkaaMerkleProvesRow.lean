/-
  The law MerkleProves holds at every input: each leaf checks with its proof; swapped, the root is that of the new leaves, swapped back it is the old one. Its conditions: none beside the statement's own.
-/
import Derived.Test.YtnkancamlnepkaaRows
import Derived.Test.YtnkancamlnepkaaMe8
import Derived.Test.YtnkancamlnepkaaOpen
import Derived.WalkKit
import Derived.ProofKit
import Derived.OpenShut
import Derived.ShutString
import Derived.ChangeOld
import Derived.Below
import Derived.SizedLaws
namespace Go.Proofs.Ytnkancamlnepkaa.merkleProvesDone
open Go.ChangeShapes Go.WideShapes Go.ChangeAt Go.RowKit Go.Px Go.Proofs.Ytnkancamlnepkaa
open Go.ChangeMaps (open_string shut_string)
set_option linter.all false

open Go.Pw
theorem okHash {cs : List Value} (h : OkC (List.replicate 32 (.int .u8)) cs) : ∃ a : List Int, cs = iv .u8 a ∧ (a.length = 32 ∧ rg a) := by
  obtain ⟨a, rfl, h1, h2⟩ := okC_iv h
  exact ⟨a, rfl, h1, get_of_mem (p := fun x => 0 ≤ x ∧ x < 256) (by omega) (fun z hz => wfU8 (h2 z hz))⟩
theorem flat_hash (l : List (List Int)) : (l.flatMap fun a => iv .u8 a) = fden fmHash l := by
  induction l with
  | nil => rfl
  | cons a l ih => rw [List.flatMap_cons, ih]; show iv .u8 a ++ _ = (iv .u8 a ++ []) ++ fden fmHash l; rw [List.append_nil]

theorem own : ownKnob Try.prog.godebug = none := by kernel_rfl
theorem laidOut : laidOutB Try.prog = true := by kernel_rfl

set_option maxRecDepth 100000 in
set_option maxHeartbeats 4000000 in
theorem lifted (os : Os) (started : os.Started) (H : Type) (enc : TypeId × Value → H) :
    ReturnsInHanded {} Try.checked os 11 .any (Rows.merkleProvesSpec.pre6 enc Try.prog Try.f11 Rows.merkleProvesRow.domain false) (Rows.merkleProvesSpec.post enc Try.prog Try.f11 false true false false) := by
  refine returnsInHanded_of_change_sized (C := Try.checked) own started (by kernel_rfl) Try.func11
    (ChangeSpec.witness6 (enc := enc) (C := Try.checked) false ⟨#[], #[.int .u8 0, .slice none 0 0, .agg (Array.replicate 2 (.int .u16 0))], []⟩ 8 (by kernel_rfl) (by kernel_rfl) (by kernel_rfl) (by kernel_rfl)) ?_
  intro W base args ds gs before hval0 hW hcnd hsz0 _
  have hval : ∀ (j : Nat) t v, Try.f11.params[j]? = some t → args[j]? = some v → Value.okWide Try.prog W .any base t v := hval0
  have hW' := hW
  obtain ⟨p, q, hA0, hV, rfl, hfz, hnd⟩ := hW
  have hA : DataW.TrodAll enc Try.prog W 0 (fun _ => true) true Try.f11.params.toList args.toList ds p := hA0
  have hsz : (DataW.weightsEach Try.prog (Try.f11.params.toList ++ Rows.merkleProvesSpec.plain.varTypes Try.prog) (ds ++ gs)).all (· ≤ reachBytes) = true := hsz0
  have hpa : Try.f11.params = #[5, 38, 105] := by kernel_rfl
  rw [hpa] at hA hval hsz
  obtain ⟨v0, vs0, d0, ds0, p0, q0, hargs, rfl, rfl, h0, r0⟩ := trodAll_cons hA
  obtain ⟨v1, vs1, d1, ds1, p1, q1, rfl, rfl, rfl, h1, r1⟩ := trodAll_cons r0
  obtain ⟨v2, vs2, d2, ds2, p2, q2, rfl, rfl, rfl, h2, r2⟩ := trodAll_cons r1
  obtain ⟨rfl, rfl, rfl⟩ := trodAll_nil r2
  obtain rfl : args = #[v0, v1, v2] := by cases args; simp_all
  obtain ⟨rfl, rfl⟩ := trodVars_none hV
  have k0 := h0
  have lt0 : ∀ x ∈ p0, x.block < W.heap.size := by obtain ⟨m, hm⟩ := k0; exact DataW.trod_lt m _ _ _ hm
  have u0 := hval 0 5 v0 rfl rfl
  obtain ⟨d, rfl, -, -, hwd⟩ := open_int (show Try.prog.underlying 5 = some (.int .u8) by kernel_rfl) u0 h0
  have k1 := h1
  have lt1 : ∀ x ∈ p1, x.block < W.heap.size := by obtain ⟨m, hm⟩ := k1; exact DataW.trod_lt m _ _ _ hm
  have u1 := hval 1 38 v1 rfl rfl
  obtain ⟨A1, css1, sps1, rfl, hr1, hr1', hR1, hd1⟩ := open_slr (show Try.prog.underlying 38 = some (.slice 35) by kernel_rfl) (show flatK Try.prog 20 35 = some (List.replicate 32 (.int .u8)) by kernel_rfl) (of_decide_eq_true (by kernel_rfl)) u1 h1
  obtain ⟨ls, hf1, hn1, hk1⟩ := rows_as (form := fun a : List Int => iv .u8 a) (ok := fun a : List Int => a.length = 32 ∧ rg a) (fun cs h => okHash h) hr1
  rw [List.flatten_append, hf1, flat_hash] at hR1
  have hlsl : ∀ a ∈ ls, a.length = 32 := fun a ha => (hk1 a ha).1
  have hlsg : ∀ a ∈ ls, rg a := fun a ha => (hk1 a ha).2
  have hlsn : ls.length ≤ 4398046511104 := by
    rw [hn1]
    rcases hd1 with ⟨-, hz, -, -⟩ | ⟨es, sp, rfl, e1, e2⟩
    · simp [hz]
    · have := sized_slice (e := 35) hsz (j := 1) (t := 38) rfl rfl (show Try.prog.underlying 38 = some (.slice 35) by kernel_rfl)
      rw [show Try.prog.bytesOf 35 = 32 by kernel_rfl] at this
      simp only [reachBytes] at this
      omega
  have k2 := h2
  have lt2 : ∀ x ∈ p2, x.block < W.heap.size := by obtain ⟨m, hm⟩ := k2; exact DataW.trod_lt m _ _ _ hm
  have u2 := hval 2 105 v2 rfl rfl
  obtain ⟨cs2, rfl, hc2⟩ := open_arr (show Try.prog.underlying 105 = some (.array 2 84) by kernel_rfl) (show flatK Try.prog 20 105 = some (List.replicate 2 (.int .u16)) by kernel_rfl) u2 h2
  obtain ⟨b, rfl, hbl, hbw⟩ := okC_iv hc2
  have hbg := get_of_mem (p := fun x => 0 ≤ x ∧ x < 65536) (l := b) (by omega) (fun z hz => wfU16 (hbw z hz))
  have hRd : Rd W A1 (fden fmHash ls ++ []) := by rw [List.append_nil]; exact hR1.left
  have hcp : ls.length ≤ css1.length + sps1.length := by omega
  have hw := law_lawProves W d A1 ls (css1.length + sps1.length) b hlsl hRd hbl (wfU8 hwd).1 (wfU8 hwd).2 hbg hcp hlsn hlsg
  rw [hn1] at hw
  clear hA0 hval0 hsz0
  refine (hw).mono fun e W' ⟨he, hH⟩ => ?_
  subst he
  exact ⟨_, rfl, _, _, _, [], _, [], hW', trodAll_mk1 (shut_bool (show Try.prog.underlying 4 = some .bool by kernel_rfl) _), (trodAll_cons_mk (Below.trod laidOut (by kernel_rfl) (of_decide_eq_true (by kernel_rfl)) k0 hH.below lt0) (trodAll_cons_mk (Below.trod laidOut (by kernel_rfl) (of_decide_eq_true (by kernel_rfl)) k1 hH.below lt1) (trodAll_cons_mk (Below.trod laidOut (by kernel_rfl) (of_decide_eq_true (by kernel_rfl)) k2 hH.below lt2) trodAll_mk0))), rfl, hH.below.frame _, fun h => by cases h⟩

theorem over : Rows.merkleProvesRow.holds Try.pinned (OpenSpec.ofChange Rows.merkleProvesSpec) :=
  OpenClaim.holds_of_wide 11 Try.f11 rfl rfl rfl rfl rfl rfl rfl ⟨rfl, rfl, rfl, rfl, rfl⟩ rfl rfl rfl rfl rfl (by kernel_rfl) Try.func11 (by kernel_rfl)
    (of_decide_eq_true (by kernel_rfl)) (by unfold Func.isWrapper; first | (rw [if_pos (by decide +kernel)]; kernel_rfl) | (rw [if_neg (by decide +kernel)]; exact ⟨rfl, rfl⟩))
    (fun os started H enc _ => lifted os started H enc)

/-- The statement. -/
theorem proved : Rows.MerkleProvesSaid := over
#print axioms proved
end Go.Proofs.Ytnkancamlnepkaa.merkleProvesDone
