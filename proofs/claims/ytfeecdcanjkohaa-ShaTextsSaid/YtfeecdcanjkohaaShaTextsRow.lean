/-
  The law ShaTexts holds at every input: a sum's words and digits, and what is read of digits, are as the document says. Its conditions: none beside the statement's own.
-/
import Derived.Test.YtfeecdcanjkohaaRows
import Derived.Test.YtfeecdcanjkohaaSaB
import Derived.WalkKit
import Derived.ProofKit
import Derived.OpenShut
import Derived.ShutString
import Derived.ChangeOld
import Derived.Below
import Derived.SizedLaws
namespace Go.Proofs.Ytfeecdcanjkohaa.shaTextsDone
open Go.ChangeShapes Go.WideShapes Go.ChangeAt Go.RowKit Go.Px Go.Proofs.Ytfeecdcanjkohaa
open Go.ChangeMaps (open_string shut_string)
set_option linter.all false

theorem own : ownKnob Try.prog.godebug = none := by kernel_rfl
theorem laidOut : laidOutB Try.prog = true := by kernel_rfl

set_option maxRecDepth 100000 in
theorem lifted (os : Os) (started : os.Started) (H : Type) (enc : TypeId × Value → H) :
    ReturnsInHanded {} Try.checked os 11 .any (Rows.shaTextsSpec.pre6 enc Try.prog Try.f11 Rows.shaTextsRow.domain false) (Rows.shaTextsSpec.post enc Try.prog Try.f11 false true false false) := by
  refine returnsInHanded_of_change_sized (C := Try.checked) own started (by kernel_rfl) Try.func11
    (ChangeSpec.witness6 (enc := enc) (C := Try.checked) false ⟨#[], #[.agg (Array.replicate 32 (.int .u8 0)), .agg (Array.replicate 4 (.int .u64 0)), .string ByteArray.empty], []⟩ 8 (by kernel_rfl) (by kernel_rfl) (by kernel_rfl) (by kernel_rfl)) ?_
  intro W base args ds gs before hval0 hW hcnd hsz0 _
  have hval : ∀ (j : Nat) t v, Try.f11.params[j]? = some t → args[j]? = some v → Value.okWide Try.prog W .any base t v := hval0
  have hW' := hW
  obtain ⟨p, q, hA0, hV, rfl, hfz, hnd⟩ := hW
  have hA : DataW.TrodAll enc Try.prog W 0 (fun _ => true) true Try.f11.params.toList args.toList ds p := hA0
  have hsz : (DataW.weightsEach Try.prog (Try.f11.params.toList ++ Rows.shaTextsSpec.plain.varTypes Try.prog) (ds ++ gs)).all (· ≤ reachBytes) = true := hsz0
  have hpa : Try.f11.params = #[47, 73, 9] := by kernel_rfl
  rw [hpa] at hA hval hsz
  obtain ⟨v0, vs0, d0, ds0, p0, q0, hargs, rfl, rfl, h0, r0⟩ := trodAll_cons hA
  obtain ⟨v1, vs1, d1, ds1, p1, q1, rfl, rfl, rfl, h1, r1⟩ := trodAll_cons r0
  obtain ⟨v2, vs2, d2, ds2, p2, q2, rfl, rfl, rfl, h2, r2⟩ := trodAll_cons r1
  obtain ⟨rfl, rfl, rfl⟩ := trodAll_nil r2
  obtain rfl : args = #[v0, v1, v2] := by cases args; simp_all
  obtain ⟨rfl, rfl⟩ := trodVars_none hV
  have k0 := h0
  have lt0 : ∀ x ∈ p0, x.block < W.heap.size := by obtain ⟨m, hm⟩ := k0; exact DataW.trod_lt m _ _ _ hm
  have u0 := hval 0 47 v0 rfl rfl
  obtain ⟨cs0, rfl, hc0⟩ := open_arr (show Try.prog.underlying 47 = some (.array 32 5) by kernel_rfl) (show flatK Try.prog 20 47 = some (List.replicate 32 (.int .u8)) by kernel_rfl) u0 h0
  obtain ⟨xx, rfl, hxxl, hxxw⟩ := okC_iv hc0
  have hxxr := get_of_mem (p := fun x => 0 ≤ x ∧ x < 256) (l := xx) (by omega) (fun z hz => wfU8 (hxxw z hz))
  have k1 := h1
  have lt1 : ∀ x ∈ p1, x.block < W.heap.size := by obtain ⟨m, hm⟩ := k1; exact DataW.trod_lt m _ _ _ hm
  have u1 := hval 1 73 v1 rfl rfl
  obtain ⟨cs1, rfl, hc1⟩ := open_arr (show Try.prog.underlying 73 = some (.array 4 22) by kernel_rfl) (show flatK Try.prog 20 73 = some (List.replicate 4 (.int .u64)) by kernel_rfl) u1 h1
  obtain ⟨wv, rfl, hwl, hww⟩ := okC_iv hc1
  have hwr : ∀ x ∈ wv, 0 ≤ x ∧ x < 18446744073709551616 := fun z hz => wfU64 (hww z hz)
  have k2 := h2
  have lt2 : ∀ x ∈ p2, x.block < W.heap.size := by obtain ⟨m, hm⟩ := k2; exact DataW.trod_lt m _ _ _ hm
  have u2 := hval 2 9 v2 rfl rfl
  obtain ⟨sb, rfl, -, -, -⟩ := open_string (show Try.prog.underlying 9 = some .string by kernel_rfl) u2 h2
  obtain ⟨ss, hss, hsr, -⟩ := strOf sb
  subst hss
  clear hA0 hval0 hsz0
  refine (proctorlaw01_ShaTexts W xx wv ss hxxl hxxr hwl hwr hsr).mono fun e W' ⟨he, hH⟩ => ?_
  subst he
  exact ⟨_, rfl, _, _, _, [], _, [], hW', trodAll_mk1 (shut_bool (show Try.prog.underlying 4 = some .bool by kernel_rfl) _), (trodAll_cons_mk (Below.trod laidOut (by kernel_rfl) (of_decide_eq_true (by kernel_rfl)) k0 hH.below lt0) (trodAll_cons_mk (Below.trod laidOut (by kernel_rfl) (of_decide_eq_true (by kernel_rfl)) k1 hH.below lt1) (trodAll_cons_mk (Below.trod laidOut (by kernel_rfl) (of_decide_eq_true (by kernel_rfl)) k2 hH.below lt2) trodAll_mk0))), rfl, hH.below.frame _, fun h => by cases h⟩

theorem over : Rows.shaTextsRow.holds Try.pinned (OpenSpec.ofChange Rows.shaTextsSpec) :=
  OpenClaim.holds_of_wide 11 Try.f11 rfl rfl rfl rfl rfl rfl rfl ⟨rfl, rfl, rfl, rfl, rfl⟩ rfl rfl rfl rfl rfl (by kernel_rfl) Try.func11 (by kernel_rfl)
    (of_decide_eq_true (by kernel_rfl)) (by unfold Func.isWrapper; first | (rw [if_pos (by decide +kernel)]; kernel_rfl) | (rw [if_neg (by decide +kernel)]; exact ⟨rfl, rfl⟩))
    (fun os started H enc _ => lifted os started H enc)

/-- The statement. -/
theorem proved : Rows.ShaTextsSaid := over
#print axioms proved
end Go.Proofs.Ytfeecdcanjkohaa.shaTextsDone
