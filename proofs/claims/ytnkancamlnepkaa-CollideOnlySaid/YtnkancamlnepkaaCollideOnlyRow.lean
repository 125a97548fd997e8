/-
  The law CollideOnly holds at every input: two unlike leaves that check against one root at one place exhibit two unlike byte strings with one sum. Its conditions: none beside the statement's own.
-/
import Derived.Test.YtnkancamlnepkaaRows
import Derived.Test.YtnkancamlnepkaaCo7
import Derived.Test.YtnkancamlnepkaaOd
import Derived.WalkKit
import Derived.ProofKit
import Derived.OpenShut
import Derived.ShutString
import Derived.ChangeOld
import Derived.Below
import Derived.SizedLaws
namespace Go.Proofs.Ytnkancamlnepkaa.collideOnlyDone
open Go.ChangeShapes Go.WideShapes Go.ChangeAt Go.RowKit Go.Px Go.Proofs.Ytnkancamlnepkaa
open Go.ChangeMaps (open_string shut_string)
set_option linter.all false

open Go.Pw
theorem okHash {cs : List Value} (h : OkC (List.replicate 32 (.int .u8)) cs) : ∃ a : List Int, cs = iv .u8 a ∧ (a.length = 32 ∧ rg a) := by
  obtain ⟨a, rfl, h1, h2⟩ := okC_iv h
  exact ⟨a, rfl, h1, get_of_mem (p := fun x => 0 ≤ x ∧ x < 256) (by omega) (fun z hz => wfU8 (h2 z hz))⟩
theorem flat_hash (l : List (List Int)) : (l.flatMap fun a => iv .u8 a) = fden fmHash l := by
  induction l with
  | nil => rfl
  | cons a l ih => rw [List.flatMap_cons, ih]; show iv .u8 a ++ _ = (iv .u8 a ++ []) ++ fden fmHash l; rw [List.append_nil]

set_option maxRecDepth 100000 in
theorem okHashes {W : World} {c : List Value} {n : Nat} (h : OkT Try.prog W (n + 2) 38 c) : ∃ (A : Option Addr) (l : List (List Int)) (q : Nat), c = [.slice A l.length q] ∧ Rd W A (fden fmHash l ++ []) ∧ (∀ a ∈ l, a.length = 32) ∧ (∀ a ∈ l, rg a) ∧ l.length ≤ q ∧ q * 32 ≤ reachBytes := by
  obtain ⟨A, css, q, rfl, hr, hR, hl, hn, hs⟩ := okT_slice h (by kernel_rfl) (show Try.prog.underlying 38 = some (.slice 35) by kernel_rfl)
  obtain ⟨l, hf, hln, hk⟩ := rows_of (form := fun a : List Int => iv .u8 a) (ok := fun a : List Int => a.length = 32 ∧ rg a) (fun cs h => okHash (okT_flat h.2 (show flatK Try.prog 20 35 = some (List.replicate 32 (.int .u8)) by kernel_rfl))) hr
  rw [hf, flat_hash] at hR
  refine ⟨A, l, q, by rw [hln], by rw [List.append_nil]; exact hR, fun a ha => (hk a ha).1, fun a ha => (hk a ha).2, by omega, ?_⟩
  rw [show Try.prog.bytesOf 35 = 32 by kernel_rfl] at hs
  exact hs
theorem reach47 : reachBytes < 140737488355328 := by decide
theorem own : ownKnob Try.prog.godebug = none := by kernel_rfl
theorem laidOut : laidOutB Try.prog = true := by kernel_rfl

set_option maxRecDepth 100000 in
set_option maxHeartbeats 4000000 in
theorem lifted (os : Os) (started : os.Started) (H : Type) (enc : TypeId × Value → H) :
    ReturnsInHanded {} Try.checked os 7 .any (Rows.collideOnlySpec.pre6 enc Try.prog Try.f7 Rows.collideOnlyRow.domain false) (Rows.collideOnlySpec.post enc Try.prog Try.f7 false true false false) := by
  refine returnsInHanded_of_change_sized (C := Try.checked) own started (by kernel_rfl) Try.func7
    (ChangeSpec.witness6 (enc := enc) (C := Try.checked) false ⟨#[], #[.int .i64 0, .agg (Array.replicate 64 (.int .u8 0) ++ #[.slice none 0 0, .slice none 0 0])], []⟩ 8 (by kernel_rfl) (by kernel_rfl) (by kernel_rfl) (by kernel_rfl)) ?_
  intro W base args ds gs before hval0 hW hcnd hsz0 _
  have hval : ∀ (j : Nat) t v, Try.f7.params[j]? = some t → args[j]? = some v → Value.okWide Try.prog W .any base t v := hval0
  have hW' := hW
  obtain ⟨p, q, hA0, hV, rfl, hfz, hnd⟩ := hW
  have hA : DataW.TrodAll enc Try.prog W 0 (fun _ => true) true Try.f7.params.toList args.toList ds p := hA0
  have hsz : (DataW.weightsEach Try.prog (Try.f7.params.toList ++ Rows.collideOnlySpec.plain.varTypes Try.prog) (ds ++ gs)).all (· ≤ reachBytes) = true := hsz0
  have hpa : Try.f7.params = #[3, 72] := by kernel_rfl
  rw [hpa] at hA hval hsz
  obtain ⟨v0, vs0, d0, ds0, p0, q0, hargs, rfl, rfl, h0, r0⟩ := trodAll_cons hA
  obtain ⟨v1, vs1, d1, ds1, p1, q1, rfl, rfl, rfl, h1, r1⟩ := trodAll_cons r0
  obtain ⟨rfl, rfl, rfl⟩ := trodAll_nil r1
  obtain rfl : args = #[v0, v1] := by cases args; simp_all
  obtain ⟨rfl, rfl⟩ := trodVars_none hV
  have k0 := h0
  have lt0 : ∀ x ∈ p0, x.block < W.heap.size := by obtain ⟨m, hm⟩ := k0; exact DataW.trod_lt m _ _ _ hm
  have u0 := hval 0 3 v0 rfl rfl
  obtain ⟨i, rfl, -, -, hwi⟩ := open_int (show Try.prog.underlying 3 = some (.int .i64) by kernel_rfl) u0 h0
  have k1 := h1
  have lt1 : ∀ x ∈ p1, x.block < W.heap.size := by obtain ⟨m, hm⟩ := k1; exact DataW.trod_lt m _ _ _ hm
  have u1 := hval 1 72 v1 rfl rfl
  have o1 := okT_arg 5 1 hsz rfl rfl k1 (by kernel_rfl)
  obtain ⟨cs1, rfl, os1⟩ := open_dst (show isStr Try.prog 72 = true by kernel_rfl) u1 o1
  obtain ⟨c1, r1, rfl, ot1, c2, r2, rfl, ot2, c3, r3, rfl, ot3, c4, r4, rfl, ot4, rfl⟩ := okT_struct os1 (show isSt Try.prog 72 [35, 35, 38, 38] = true by kernel_rfl)
  obtain ⟨a, rfl, hal, hag⟩ := okHash (okT_flat ot1 (show flatK Try.prog 20 35 = some (List.replicate 32 (.int .u8)) by kernel_rfl))
  obtain ⟨b, rfl, hbl, hbg⟩ := okHash (okT_flat ot2 (show flatK Try.prog 20 35 = some (List.replicate 32 (.int .u8)) by kernel_rfl))
  obtain ⟨Aa, pa, qa, rfl, hRa, hpal, hpag, hpan, hpaz⟩ := okHashes ot3
  obtain ⟨Ab, pb, qb, rfl, hRb, hpbl, hpbg, hpbn, hpbz⟩ := okHashes ot4
  have h47 := reach47
  have hw := law_lawOnly W i a b Aa pa qa Ab pb qb hal hbl hpal hpbl hRa hRb hag hbg hpag hpbg (by omega)
  clear hA0 hval0 hsz0
  refine (hw).mono fun e W' ⟨he, hH⟩ => ?_
  subst he
  exact ⟨_, rfl, _, _, _, [], _, [], hW', trodAll_mk1 (shut_bool (show Try.prog.underlying 4 = some .bool by kernel_rfl) _), (trodAll_cons_mk (Below.trod laidOut (by kernel_rfl) (of_decide_eq_true (by kernel_rfl)) k0 hH.below lt0) (trodAll_cons_mk (Below.trod laidOut (by kernel_rfl) (of_decide_eq_true (by kernel_rfl)) k1 hH.below lt1) trodAll_mk0)), rfl, hH.below.frame _, fun h => by cases h⟩

theorem over : Rows.collideOnlyRow.holds Try.pinned (OpenSpec.ofChange Rows.collideOnlySpec) :=
  OpenClaim.holds_of_wide 7 Try.f7 rfl rfl rfl rfl rfl rfl rfl ⟨rfl, rfl, rfl, rfl, rfl⟩ rfl rfl rfl rfl rfl (by kernel_rfl) Try.func7 (by kernel_rfl)
    (of_decide_eq_true (by kernel_rfl)) (by unfold Func.isWrapper; first | (rw [if_pos (by decide +kernel)]; kernel_rfl) | (rw [if_neg (by decide +kernel)]; exact ⟨rfl, rfl⟩))
    (fun os started H enc _ => lifted os started H enc)

/-- The statement. -/
theorem proved : Rows.CollideOnlySaid := over
#print axioms proved
end Go.Proofs.Ytnkancamlnepkaa.collideOnlyDone
