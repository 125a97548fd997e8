/-
  The law CollideFinds holds at every input: which entries collide is told as the document says. Its conditions: none beside the statement's own.
-/
import Derived.Test.YtnkancamlnepkaaRows
import Derived.Test.YtnkancamlnepkaaCo4
import Derived.Test.YtnkancamlnepkaaOd
import Derived.WalkKit
import Derived.ProofKit
import Derived.OpenShut
import Derived.ShutString
import Derived.ChangeOld
import Derived.Below
import Derived.SizedLaws
namespace Go.Proofs.Ytnkancamlnepkaa.collideFindsDone
open Go.ChangeShapes Go.WideShapes Go.ChangeAt Go.RowKit Go.Px Go.Proofs.Ytnkancamlnepkaa
open Go.ChangeMaps (open_string shut_string)
set_option linter.all false

open Go.Pw
theorem okHash {cs : List Value} (h : OkC (List.replicate 32 (.int .u8)) cs) : ∃ a : List Int, cs = iv .u8 a ∧ (a.length = 32 ∧ rg a) := by
  obtain ⟨a, rfl, h1, h2⟩ := okC_iv h
  exact ⟨a, rfl, h1, get_of_mem (p := fun x => 0 ≤ x ∧ x < 256) (by omega) (fun z hz => wfU8 (h2 z hz))⟩
theorem flat_hash (l : List (List Int)) : (l.flatMap fun a => iv .u8 a) = fden fmHash l := by
  induction l with
  | nil => rfl
  | cons a l ih => rw [List.flatMap_cons, ih]; show iv .u8 a ++ _ = (iv .u8 a ++ []) ++ fden fmHash l; rw [List.append_nil]

set_option maxRecDepth 100000 in
theorem okBytes {W : World} {c : List Value} {n : Nat} (h : OkT Try.prog W (n + 2) 52 c) : ∃ (A : Option Addr) (l : List Int) (q : Nat), c = [.slice A l.length q] ∧ Rd W A (iv .u8 l) ∧ rg l ∧ l.length ≤ q ∧ q ≤ reachBytes := by
  obtain ⟨A, css, q, rfl, hr, hR, hl, hn, hs⟩ := okT_slice h (by kernel_rfl) (show Try.prog.underlying 52 = some (.slice 5) by kernel_rfl)
  obtain ⟨l, hf, hln, hk⟩ := rows_of (form := fun x : Int => [.int .u8 x]) (ok := fun x : Int => 0 ≤ x ∧ x < 256) (fun cs h => by
    have h1 := okT_flat h.2 (show flatK Try.prog 20 5 = some [.int .u8] by kernel_rfl)
    cases h1 with
    | cons a b =>
      cases b
      obtain ⟨x, rfl, hx⟩ := a
      exact ⟨x, rfl, wfU8 hx⟩) hr
  have e : (l.flatMap fun x : Int => [Value.int .u8 x]) = iv .u8 l := by
    clear hf hln hk
    induction l with
    | nil => rfl
    | cons x l ih => rw [List.flatMap_cons, ih]; rfl
  rw [hf, e] at hR
  refine ⟨A, l, q, by rw [hln], hR, get_of_mem (p := fun x => 0 ≤ x ∧ x < 256) (by omega) hk, by omega, ?_⟩
  rw [show Try.prog.bytesOf 5 = 1 by kernel_rfl] at hs
  omega
set_option maxRecDepth 100000 in
theorem okHashed {W : World} {c : List Value} {n : Nat} (h : OkT Try.prog W (n + 3) 67 c) : ∃ a : (Option Addr × List Int × Nat) × List Int, c = c0den [] (fmHashed.sg a) ∧ (a.2.length = 32 ∧ fmRd fmHashed W a ∧ rg a.1.2.1 ∧ rg a.2 ∧ a.1.2.1.length ≤ reachBytes) := by
  obtain ⟨c1, r1, rfl, o1, c2, r2, rfl, o2, rfl⟩ := okT_struct h (show isSt Try.prog 67 [52, 35] = true by kernel_rfl)
  obtain ⟨A, l, q, rfl, hR, hg, hl, hs⟩ := okBytes o1
  obtain ⟨s, rfl, h1, h2⟩ := okHash (okT_flat o2 (show flatK Try.prog 20 35 = some (List.replicate 32 (.int .u8)) by kernel_rfl))
  refine ⟨((A, l, q), s), rfl, h1, fun o A' k l' hi => ?_, hg, h2, by show l.length ≤ reachBytes; omega⟩
  simp only [fmHashed, cond_eq_ite] at hi
  split at hi
  · simp only [Option.some.injEq, Prod.mk.injEq] at hi
    obtain ⟨rfl, rfl, rfl⟩ := hi
    exact hR
  · cases hi
theorem flat_fm (F : Fm) (l : List F.α) : (l.flatMap fun a => c0den [] (F.sg a)) = fden F l := by
  induction l with
  | nil => rfl
  | cons a l ih => rw [List.flatMap_cons, ih]; rfl
theorem reach47 : reachBytes < 140737488355328 := by decide
theorem own : ownKnob Try.prog.godebug = none := by kernel_rfl
theorem laidOut : laidOutB Try.prog = true := by kernel_rfl

set_option maxRecDepth 100000 in
set_option maxHeartbeats 4000000 in
theorem lifted (os : Os) (started : os.Started) (H : Type) (enc : TypeId × Value → H) :
    ReturnsInHanded {} Try.checked os 4 .any (Rows.collideFindsSpec.pre6 enc Try.prog Try.f4 Rows.collideFindsRow.domain false) (Rows.collideFindsSpec.post enc Try.prog Try.f4 false true false false) := by
  refine returnsInHanded_of_change_sized (C := Try.checked) own started (by kernel_rfl) Try.func4
    (ChangeSpec.witness6 (enc := enc) (C := Try.checked) false ⟨#[], #[.slice none 0 0], []⟩ 8 (by kernel_rfl) (by kernel_rfl) (by kernel_rfl) (by kernel_rfl)) ?_
  intro W base args ds gs before hval0 hW hcnd hsz0 _
  have hval : ∀ (j : Nat) t v, Try.f4.params[j]? = some t → args[j]? = some v → Value.okWide Try.prog W .any base t v := hval0
  have hW' := hW
  obtain ⟨p, q, hA0, hV, rfl, hfz, hnd⟩ := hW
  have hA : DataW.TrodAll enc Try.prog W 0 (fun _ => true) true Try.f4.params.toList args.toList ds p := hA0
  have hsz : (DataW.weightsEach Try.prog (Try.f4.params.toList ++ Rows.collideFindsSpec.plain.varTypes Try.prog) (ds ++ gs)).all (· ≤ reachBytes) = true := hsz0
  have hpa : Try.f4.params = #[56] := by kernel_rfl
  rw [hpa] at hA hval hsz
  obtain ⟨v0, vs0, d0, ds0, p0, q0, hargs, rfl, rfl, h0, r0⟩ := trodAll_cons hA
  obtain ⟨rfl, rfl, rfl⟩ := trodAll_nil r0
  obtain rfl : args = #[v0] := by cases args; simp_all
  obtain ⟨rfl, rfl⟩ := trodVars_none hV
  have k0 := h0
  have lt0 : ∀ x ∈ p0, x.block < W.heap.size := by obtain ⟨m, hm⟩ := k0; exact DataW.trod_lt m _ _ _ hm
  have u0 := hval 0 56 v0 rfl rfl
  have o0 := okT_arg 5 0 hsz rfl rfl k0 (by kernel_rfl)
  obtain ⟨A0, css0, q0, rfl, hr0, hR0, hlc0, hnil0, hb0⟩ := open_dsl (show Try.prog.underlying 56 = some (.slice 67) by kernel_rfl) (by kernel_rfl) u0 o0
  obtain ⟨ls, hf0, hn0, hk0⟩ := rows_of (form := fun a : (Option Addr × List Int × Nat) × List Int => c0den [] (fmHashed.sg a)) (ok := fun a => a.2.length = 32 ∧ fmRd fmHashed W a ∧ rg a.1.2.1 ∧ rg a.2 ∧ a.1.2.1.length ≤ reachBytes) (fun cs h => okHashed h.2) hr0
  rw [hf0, show (ls.flatMap fun a : (Option Addr × List Int × Nat) × List Int => c0den [] (fmHashed.sg a)) = fden fmHashed ls from flat_fm fmHashed ls] at hR0
  have hlsl : ∀ a ∈ ls, a.2.length = 32 := fun a ha => (hk0 a ha).1
  have hlsd : ∀ a ∈ ls, fmRd fmHashed W a := fun a ha => (hk0 a ha).2.1
  have hlsg : ∀ a ∈ ls, rg a.1.2.1 := fun a ha => (hk0 a ha).2.2.1
  have hlsh : ∀ a ∈ ls, rg a.2 := fun a ha => (hk0 a ha).2.2.2.1
  have hlsz : ∀ a ∈ ls, a.1.2.1.length ≤ reachBytes := fun a ha => (hk0 a ha).2.2.2.2
  have hlsn : ls.length ≤ 2513169434916 := by
    rw [show Try.prog.bytesOf 67 = 56 by kernel_rfl] at hb0
    have := reach47
    omega
  have hRd : Rd W A0 (fden fmHashed ls ++ []) := by rw [List.append_nil]; exact hR0
  have hw := law_lawFinds W A0 ls q0 hlsl hRd hlsd (by omega) hlsg
  rw [hn0] at hw
  clear hA0 hval0 hsz0
  refine (hw).mono fun e W' ⟨he, hH⟩ => ?_
  subst he
  exact ⟨_, rfl, _, _, _, [], _, [], hW', trodAll_mk1 (shut_bool (show Try.prog.underlying 4 = some .bool by kernel_rfl) _), (trodAll_cons_mk (Below.trod laidOut (by kernel_rfl) (of_decide_eq_true (by kernel_rfl)) k0 hH.below lt0) trodAll_mk0), rfl, hH.below.frame _, fun h => by cases h⟩

theorem over : Rows.collideFindsRow.holds Try.pinned (OpenSpec.ofChange Rows.collideFindsSpec) :=
  OpenClaim.holds_of_wide 4 Try.f4 rfl rfl rfl rfl rfl rfl rfl ⟨rfl, rfl, rfl, rfl, rfl⟩ rfl rfl rfl rfl rfl (by kernel_rfl) Try.func4 (by kernel_rfl)
    (of_decide_eq_true (by kernel_rfl)) (by unfold Func.isWrapper; first | (rw [if_pos (by decide +kernel)]; kernel_rfl) | (rw [if_neg (by decide +kernel)]; exact ⟨rfl, rfl⟩))
    (fun os started H enc _ => lifted os started H enc)

/-- The statement. -/
theorem proved : Rows.CollideFindsSaid := over
#print axioms proved
end Go.Proofs.Ytnkancamlnepkaa.collideFindsDone
