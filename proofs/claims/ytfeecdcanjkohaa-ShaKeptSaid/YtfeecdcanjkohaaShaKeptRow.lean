/-
  The law ShaKept holds at every input: what is handed in stays, the room behind its end too. Its conditions: none beside the statement's own.
-/
import Derived.Test.YtfeecdcanjkohaaRows
import Derived.Test.YtfeecdcanjkohaaSaK
import Derived.WalkKit
import Derived.ProofKit
import Derived.OpenShut
import Derived.ShutString
import Derived.ChangeOld
import Derived.Below
import Derived.SizedLaws
namespace Go.Proofs.Ytfeecdcanjkohaa.shaKeptDone
open Go.ChangeShapes Go.WideShapes Go.ChangeAt Go.RowKit Go.Px Go.Proofs.Ytfeecdcanjkohaa
open Go.ChangeMaps (open_string shut_string)
set_option linter.all false

theorem okByte {cs : List Value} (h : OkC [.int .u8] cs) : ∃ n : Int, cs = [.int .u8 n] ∧ 0 ≤ n ∧ n < 256 := by
  obtain ⟨c1, r1, rfl, ⟨k, rfl, hk⟩, h1⟩ := okC_cons h
  cases h1
  exact ⟨k, rfl, wfU8 hk⟩
theorem flat_bytes (l : List Int) : (l.flatMap fun n : Int => [Value.int .u8 n]) = iv .u8 l := by
  induction l with
  | nil => rfl
  | cons x l ih => rw [List.flatMap_cons, ih]; rfl

theorem own : ownKnob Try.prog.godebug = none := by kernel_rfl
theorem laidOut : laidOutB Try.prog = true := by kernel_rfl

set_option maxRecDepth 100000 in
theorem lifted (os : Os) (started : os.Started) (H : Type) (enc : TypeId × Value → H) :
    ReturnsInHanded {} Try.checked os 9 .any (Rows.shaKeptSpec.pre6 enc Try.prog Try.f9 Rows.shaKeptRow.domain false) (Rows.shaKeptSpec.post enc Try.prog Try.f9 false true false false) := by
  refine returnsInHanded_of_change_sized (C := Try.checked) own started (by kernel_rfl) Try.func9
    (ChangeSpec.witness6 (enc := enc) (C := Try.checked) false ⟨#[], #[.slice none 0 0], []⟩ 8 (by kernel_rfl) (by kernel_rfl) (by kernel_rfl) (by kernel_rfl)) ?_
  intro W base args ds gs before hval0 hW hcnd hsz0 _
  have hval : ∀ (j : Nat) t v, Try.f9.params[j]? = some t → args[j]? = some v → Value.okWide Try.prog W .any base t v := hval0
  have hW' := hW
  obtain ⟨p, q, hA0, hV, rfl, hfz, hnd⟩ := hW
  have hA : DataW.TrodAll enc Try.prog W 0 (fun _ => true) true Try.f9.params.toList args.toList ds p := hA0
  have hsz : (DataW.weightsEach Try.prog (Try.f9.params.toList ++ Rows.shaKeptSpec.plain.varTypes Try.prog) (ds ++ gs)).all (· ≤ reachBytes) = true := hsz0
  have hpa : Try.f9.params = #[50] := by kernel_rfl
  rw [hpa] at hA hval hsz
  obtain ⟨v0, vs0, d0, ds0, p0, q0, hargs, rfl, rfl, h0, r0⟩ := trodAll_cons hA
  obtain ⟨rfl, rfl, rfl⟩ := trodAll_nil r0
  obtain rfl : args = #[v0] := by cases args; simp_all
  obtain ⟨rfl, rfl⟩ := trodVars_none hV
  have k0 := h0
  have lt0 : ∀ x ∈ p0, x.block < W.heap.size := by obtain ⟨m, hm⟩ := k0; exact DataW.trod_lt m _ _ _ hm
  have u0 := hval 0 50 v0 rfl rfl
  obtain ⟨A0, css0, sps0, rfl, hr0, hr0', hR0, hd0⟩ := open_slr (show Try.prog.underlying 50 = some (.slice 5) by kernel_rfl) (show flatK Try.prog 20 5 = some [.int .u8] by kernel_rfl) (of_decide_eq_true (by kernel_rfl)) u0 h0
  obtain ⟨bb, hf0, hn0, hk0⟩ := rows_as (form := fun n : Int => [.int .u8 n]) (ok := fun n : Int => 0 ≤ n ∧ n < 256) (fun cs h => okByte h) hr0
  rw [List.flatten_append, hf0, flat_bytes] at hR0
  have hb0 : bb.length ≤ 140737488351232 := by
    rw [hn0]
    rcases hd0 with ⟨-, hz, -, -⟩ | ⟨es, sp, rfl, e1, e2⟩
    · simp [hz]
    · have := sized_slice (e := 5) hsz (j := 0) (t := 50) rfl rfl (show Try.prog.underlying 50 = some (.slice 5) by kernel_rfl)
      rw [show Try.prog.bytesOf 5 = 1 by kernel_rfl] at this
      simp only [reachBytes] at this
      omega
  have hg0 := get_of_mem (p := fun x => 0 ≤ x ∧ x < 256) (l := bb) (by omega) hk0
  have hw := proctorlaw01_ShaKept W bb A0 (css0.length + sps0.length) hR0.left (by omega) hk0
  rw [hn0] at hw
  clear hA0 hval0 hsz0
  refine (hw).mono fun e W' ⟨he, hH⟩ => ?_
  subst he
  exact ⟨_, rfl, _, _, _, [], _, [], hW', trodAll_mk1 (shut_bool (show Try.prog.underlying 4 = some .bool by kernel_rfl) _), (trodAll_cons_mk (Below.trod laidOut (by kernel_rfl) (of_decide_eq_true (by kernel_rfl)) k0 hH.below lt0) trodAll_mk0), rfl, hH.below.frame _, fun h => by cases h⟩

theorem over : Rows.shaKeptRow.holds Try.pinned (OpenSpec.ofChange Rows.shaKeptSpec) :=
  OpenClaim.holds_of_wide 9 Try.f9 rfl rfl rfl rfl rfl rfl rfl ⟨rfl, rfl, rfl, rfl, rfl⟩ rfl rfl rfl rfl rfl (by kernel_rfl) Try.func9 (by kernel_rfl)
    (of_decide_eq_true (by kernel_rfl)) (by unfold Func.isWrapper; first | (rw [if_pos (by decide +kernel)]; kernel_rfl) | (rw [if_neg (by decide +kernel)]; exact ⟨rfl, rfl⟩))
    (fun os started H enc _ => lifted os started H enc)

/-- The statement. -/
theorem proved : Rows.ShaKeptSaid := over
#print axioms proved
end Go.Proofs.Ytfeecdcanjkohaa.shaKeptDone
