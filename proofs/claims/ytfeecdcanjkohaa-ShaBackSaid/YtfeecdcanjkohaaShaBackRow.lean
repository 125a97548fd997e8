/-
  The law ShaBack holds at every input: words and digits of a sum give it back. Its conditions: none beside the statement's own.
-/
import Derived.Test.YtfeecdcanjkohaaRows
import Derived.Test.YtfeecdcanjkohaaSaB
import Derived.WalkKit
import Derived.ProofKit
import Derived.OpenShut
import Derived.ShutString
import Derived.ChangeOld
import Derived.Below
import Derived.SizedLaws
namespace Go.Proofs.Ytfeecdcanjkohaa.shaBackDone
open Go.ChangeShapes Go.WideShapes Go.ChangeAt Go.RowKit Go.Px Go.Proofs.Ytfeecdcanjkohaa
open Go.ChangeMaps (open_string shut_string)
set_option linter.all false

theorem own : ownKnob Try.prog.godebug = none := by kernel_rfl
theorem laidOut : laidOutB Try.prog = true := by kernel_rfl

set_option maxRecDepth 100000 in
theorem lifted (os : Os) (started : os.Started) (H : Type) (enc : TypeId × Value → H) :
    ReturnsInHanded {} Try.checked os 12 .any (Rows.shaBackSpec.pre6 enc Try.prog Try.f12 Rows.shaBackRow.domain false) (Rows.shaBackSpec.post enc Try.prog Try.f12 false true false false) := by
  refine returnsInHanded_of_change_sized (C := Try.checked) own started (by kernel_rfl) Try.func12
    (ChangeSpec.witness6 (enc := enc) (C := Try.checked) false ⟨#[], #[.agg (Array.replicate 32 (.int .u8 0)), .agg (Array.replicate 4 (.int .u64 0))], []⟩ 8 (by kernel_rfl) (by kernel_rfl) (by kernel_rfl) (by kernel_rfl)) ?_
  intro W base args ds gs before hval0 hW hcnd hsz0 _
  have hval : ∀ (j : Nat) t v, Try.f12.params[j]? = some t → args[j]? = some v → Value.okWide Try.prog W .any base t v := hval0
  have hW' := hW
  obtain ⟨p, q, hA0, hV, rfl, hfz, hnd⟩ := hW
  have hA : DataW.TrodAll enc Try.prog W 0 (fun _ => true) true Try.f12.params.toList args.toList ds p := hA0
  have hsz : (DataW.weightsEach Try.prog (Try.f12.params.toList ++ Rows.shaBackSpec.plain.varTypes Try.prog) (ds ++ gs)).all (· ≤ reachBytes) = true := hsz0
  have hpa : Try.f12.params = #[47, 73] := by kernel_rfl
  rw [hpa] at hA hval hsz
  obtain ⟨v0, vs0, d0, ds0, p0, q0, hargs, rfl, rfl, h0, r0⟩ := trodAll_cons hA
  obtain ⟨v1, vs1, d1, ds1, p1, q1, rfl, rfl, rfl, h1, r1⟩ := trodAll_cons r0
  obtain ⟨rfl, rfl, rfl⟩ := trodAll_nil r1
  obtain rfl : args = #[v0, v1] := by cases args; simp_all
  obtain ⟨rfl, rfl⟩ := trodVars_none hV
  have k0 := h0
  have lt0 : ∀ x ∈ p0, x.block < W.heap.size := by obtain ⟨m, hm⟩ := k0; exact DataW.trod_lt m _ _ _ hm
  have u0 := hval 0 47 v0 rfl rfl
  obtain ⟨cs0, rfl, hc0⟩ := open_arr (show Try.prog.underlying 47 = some (.array 32 5) by kernel_rfl) (show flatK Try.prog 20 47 = some (List.replicate 32 (.int .u8)) by kernel_rfl) u0 h0
  obtain ⟨xx, rfl, hxxl, hxxw⟩ := okC_iv hc0
  have hxxr := get_of_mem (p := fun x => 0 ≤ x ∧ x < 256) (l := xx) (by omega) (fun z hz => wfU8 (hxxw z hz))
  have k1 := h1
  have lt1 : ∀ x ∈ p1, x.block < W.heap.size := by obtain ⟨m, hm⟩ := k1; exact DataW.trod_lt m _ _ _ hm
  have u1 := hval 1 73 v1 rfl rfl
  obtain ⟨cs1, rfl, hc1⟩ := open_arr (show Try.prog.underlying 73 = some (.array 4 22) by kernel_rfl) (show flatK Try.prog 20 73 = some (List.replicate 4 (.int .u64)) by kernel_rfl) u1 h1
  obtain ⟨wv, rfl, hwl, hww⟩ := okC_iv hc1
  have hwr : ∀ x ∈ wv, 0 ≤ x ∧ x < 18446744073709551616 := fun z hz => wfU64 (hww z hz)
  clear hA0 hval0 hsz0
  refine (proctorlaw01_ShaBack W xx wv hxxl hxxr hwl hwr).mono fun e W' ⟨he, hH⟩ => ?_
  subst he
  exact ⟨_, rfl, _, _, _, [], _, [], hW', trodAll_mk1 (shut_bool (show Try.prog.underlying 4 = some .bool by kernel_rfl) _), (trodAll_cons_mk (Below.trod laidOut (by kernel_rfl) (of_decide_eq_true (by kernel_rfl)) k0 hH.below lt0) (trodAll_cons_mk (Below.trod laidOut (by kernel_rfl) (of_decide_eq_true (by kernel_rfl)) k1 hH.below lt1) trodAll_mk0)), rfl, hH.below.frame _, fun h => by cases h⟩

theorem over : Rows.shaBackRow.holds Try.pinned (OpenSpec.ofChange Rows.shaBackSpec) :=
  OpenClaim.holds_of_wide 12 Try.f12 rfl rfl rfl rfl rfl rfl rfl ⟨rfl, rfl, rfl, rfl, rfl⟩ rfl rfl rfl rfl rfl (by kernel_rfl) Try.func12 (by kernel_rfl)
    (of_decide_eq_true (by kernel_rfl)) (by unfold Func.isWrapper; first | (rw [if_pos (by decide +kernel)]; kernel_rfl) | (rw [if_neg (by decide +kernel)]; exact ⟨rfl, rfl⟩))
    (fun os started H enc _ => lifted os started H enc)

/-- The statement. -/
theorem proved : Rows.ShaBackSaid := over
#print axioms proved
end Go.Proofs.Ytfeecdcanjkohaa.shaBackDone
