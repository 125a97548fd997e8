/-
  The law OracleNil holds at every input: an oracle that is not there answers as the document says. Its conditions: none beside the statement's own.
-/
import Derived.Test.YthglpoebfepaiaaRows
import Derived.Test.YthglpoebfepaiaaOr3
import Derived.Test.YthglpoebfepaiaaOd
import Derived.WalkKit
import Derived.ProofKit
import Derived.OpenShut
import Derived.ShutString
import Derived.ChangeOld
import Derived.Below
import Derived.SizedLaws
namespace Go.Proofs.Ythglpoebfepaiaa.oracleNilDone
open Go.ChangeShapes Go.WideShapes Go.ChangeAt Go.RowKit Go.Px Go.Proofs.Ythglpoebfepaiaa
open Go.ChangeMaps (open_string shut_string)
set_option linter.all false

open Go.Pw
set_option maxRecDepth 100000 in
theorem okU8 {W : World} {c : List Value} {n : Nat} (h : OkT Try.prog W (n + 1) 5 c) : ∃ x : Int, c = [.int .u8 x] ∧ (0 ≤ x ∧ x < 256) := by
  have h1 := okT_flat h (show flatK Try.prog 20 5 = some [.int .u8] by kernel_rfl)
  cases h1 with
  | cons a b =>
    cases b
    obtain ⟨x, rfl, hx⟩ := a
    exact ⟨x, rfl, wfU8 hx⟩
theorem flat_iv (l : List Int) : (l.flatMap fun x : Int => [Value.int .u8 x]) = iv .u8 l := by
  induction l with
  | nil => rfl
  | cons x l ih => rw [List.flatMap_cons, ih]; rfl
theorem reach46 : reachBytes ≤ 140737488351232 := by decide
theorem own : ownKnob Try.prog.godebug = none := by kernel_rfl
theorem laidOut : laidOutB Try.prog = true := by kernel_rfl

set_option maxRecDepth 100000 in
set_option maxHeartbeats 4000000 in
theorem lifted (os : Os) (started : os.Started) (H : Type) (enc : TypeId × Value → H) :
    ReturnsInHanded {} Try.checked os 4 .any (Rows.oracleNilSpec.pre6 enc Try.prog Try.f4 Rows.oracleNilRow.domain false) (Rows.oracleNilSpec.post enc Try.prog Try.f4 false true false false) := by
  refine returnsInHanded_of_change_sized (C := Try.checked) own started (by kernel_rfl) Try.func4
    (ChangeSpec.witness6 (enc := enc) (C := Try.checked) false ⟨#[], #[.slice none 0 0], []⟩ 8 (by kernel_rfl) (by kernel_rfl) (by kernel_rfl) (by kernel_rfl)) ?_
  intro W base args ds gs before hval0 hW hcnd hsz0 _
  have hval : ∀ (j : Nat) t v, Try.f4.params[j]? = some t → args[j]? = some v → Value.okWide Try.prog W .any base t v := hval0
  have hW' := hW
  obtain ⟨p, q, hA0, hV, rfl, hfz, hnd⟩ := hW
  have hA : DataW.TrodAll enc Try.prog W 0 (fun _ => true) true Try.f4.params.toList args.toList ds p := hA0
  have hsz : (DataW.weightsEach Try.prog (Try.f4.params.toList ++ Rows.oracleNilSpec.plain.varTypes Try.prog) (ds ++ gs)).all (· ≤ reachBytes) = true := hsz0
  have hpa : Try.f4.params = #[29] := by kernel_rfl
  rw [hpa] at hA hval hsz
  obtain ⟨v0, vs0, d0, ds0, p0, q0, hargs, rfl, rfl, h0, r0⟩ := trodAll_cons hA
  obtain ⟨rfl, rfl, rfl⟩ := trodAll_nil r0
  obtain rfl : args = #[v0] := by cases args; simp_all
  obtain ⟨rfl, rfl⟩ := trodVars_none hV
  have k0 := h0
  have lt0 : ∀ x ∈ p0, x.block < W.heap.size := by obtain ⟨m, hm⟩ := k0; exact DataW.trod_lt m _ _ _ hm
  have u0 := hval 0 29 v0 rfl rfl
  have o0 := okT_arg 5 0 hsz rfl rfl k0 (by kernel_rfl)
  obtain ⟨A0, css0, q0, rfl, hr0, hR0, hlc0, hnil0, hb0⟩ := open_dsl (show Try.prog.underlying 29 = some (.slice 5) by kernel_rfl) (by kernel_rfl) u0 o0
  obtain ⟨b, hf0, hn0, hk0⟩ := rows_of (form := fun x : Int => [Value.int .u8 x]) (ok := fun x : Int => 0 ≤ x ∧ x < 256) (fun cs h => okU8 h.2) hr0
  rw [hf0, flat_iv] at hR0
  have hbg : ∀ j, 0 ≤ b.getD j 0 ∧ b.getD j 0 < 256 := get_of_mem (p := fun x => 0 ≤ x ∧ x < 256) (by omega) hk0
  have hbz : A0.isNone = true → b = [] := fun h => List.eq_nil_of_length_eq_zero (by rw [hn0, (hnil0 (Option.isNone_iff_eq_none.1 h)).1]; rfl)
  have hbn : b.length ≤ 140737488351232 := by
    rw [show Try.prog.bytesOf 5 = 1 by kernel_rfl] at hb0
    have := reach46
    omega
  have hRd : Rd W A0 (iv .u8 b ++ []) := by rw [List.append_nil]; exact hR0
  have hw := law_lawNil W A0 b q0 hbz hRd (by omega) hbg
  rw [hn0] at hw
  clear hA0 hval0 hsz0
  refine (hw).mono fun e W' ⟨he, hH⟩ => ?_
  subst he
  exact ⟨_, rfl, _, _, _, [], _, [], hW', trodAll_mk1 (shut_bool (show Try.prog.underlying 4 = some .bool by kernel_rfl) _), (trodAll_cons_mk (Below.trod laidOut (by kernel_rfl) (of_decide_eq_true (by kernel_rfl)) k0 hH.below lt0) trodAll_mk0), rfl, hH.below.frame _, fun h => by cases h⟩

theorem over : Rows.oracleNilRow.holds Try.pinned (OpenSpec.ofChange Rows.oracleNilSpec) :=
  OpenClaim.holds_of_wide 4 Try.f4 rfl rfl rfl rfl rfl rfl rfl ⟨rfl, rfl, rfl, rfl, rfl⟩ rfl rfl rfl rfl rfl (by kernel_rfl) Try.func4 (by kernel_rfl)
    (of_decide_eq_true (by kernel_rfl)) (by unfold Func.isWrapper; first | (rw [if_pos (by decide +kernel)]; kernel_rfl) | (rw [if_neg (by decide +kernel)]; exact ⟨rfl, rfl⟩))
    (fun os started H enc _ => lifted os started H enc)

/-- The statement. -/
theorem proved : Rows.OracleNilSaid := over
#print axioms proved
end Go.Proofs.Ythglpoebfepaiaa.oracleNilDone
