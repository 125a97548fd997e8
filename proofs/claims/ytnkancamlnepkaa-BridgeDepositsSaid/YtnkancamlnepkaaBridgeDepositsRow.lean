/-
  The law BridgeDeposits holds at every input: a deposit waits in the inbox as the message that brings it. Its conditions: none beside the statement's own.
-/
import Derived.Test.YtnkancamlnepkaaRows
import Derived.Test.YtnkancamlnepkaaBr3
import Derived.Test.YtnkancamlnepkaaOd
import Derived.WalkKit
import Derived.ProofKit
import Derived.OpenShut
import Derived.ShutString
import Derived.ChangeOld
import Derived.Below
import Derived.SizedLaws
namespace Go.Proofs.Ytnkancamlnepkaa.bridgeDepositsDone
open Go.ChangeShapes Go.WideShapes Go.ChangeAt Go.RowKit Go.Px Go.Proofs.Ytnkancamlnepkaa
open Go.ChangeMaps (open_string shut_string)
set_option linter.all false

open Go.Pw
theorem okZ {k : IntKind} {ks : List CK} {cs : List Value} (h : OkC (.int k :: ks) cs) : ∃ (x : Int) (r : List Value), cs = .int k x :: r ∧ (Lit.int k x).wf = true ∧ OkC ks r := by
  obtain ⟨c, r, rfl, ⟨x, rfl, hx⟩, h2⟩ := okC_cons h
  exact ⟨x, r, rfl, hx, h2⟩
theorem okN {cs : List Value} (h : OkC [] cs) : cs = [] := by cases h; rfl
theorem okBs : ∀ {n : Nat} {cs : List Value}, OkC (List.replicate n .bool) cs → ∃ l : List Bool, cs = fden fmTruth l ∧ l.length = n
  | 0, cs, h => ⟨[], okN h, rfl⟩
  | n + 1, cs, h => by
    rw [List.replicate_succ] at h
    obtain ⟨c, r, rfl, ⟨x, rfl⟩, h2⟩ := okC_cons h
    obtain ⟨l, rfl, hl⟩ := okBs h2
    exact ⟨x :: l, rfl, by simp [hl]⟩
theorem okH {cs : List Value} (h : OkC (List.replicate 32 (.int .u8)) cs) : ∃ a : List Int, cs = iv .u8 a ∧ a.length = 32 := by
  obtain ⟨a, rfl, h1, h2⟩ := okC_iv h
  exact ⟨a, rfl, h1⟩
set_option maxRecDepth 100000 in
theorem okI {W : World} {c : List Value} {n : Nat} (h : OkT Try.prog W (n + 1) 3 c) : ∃ x : Int, c = [.int .i64 x] := by
  obtain ⟨x, r, rfl, -, h2⟩ := okZ (okT_flat h (show flatK Try.prog 20 3 = some [.int .i64] by kernel_rfl))
  exact ⟨x, by rw [okN h2]⟩
set_option maxRecDepth 100000 in
theorem okU {W : World} {c : List Value} {n : Nat} (h : OkT Try.prog W (n + 1) 22 c) : ∃ x : Int, c = [.int .u64 x] ∧ 0 ≤ x ∧ x < 18446744073709551616 := by
  obtain ⟨x, r, rfl, hx, h2⟩ := okZ (okT_flat h (show flatK Try.prog 20 22 = some [.int .u64] by kernel_rfl))
  exact ⟨x, by rw [okN h2], wfU64 hx⟩
set_option maxRecDepth 100000 in
theorem okBytes {W : World} {c : List Value} {n : Nat} (h : OkT Try.prog W (n + 2) 52 c) : ∃ (A : Option Addr) (l : List Int) (q : Nat), c = [.slice A l.length q] ∧ Rd W A (iv .u8 l) := by
  obtain ⟨A, css, q, rfl, hr, hR, hl, hn, hs⟩ := okT_slice h (by kernel_rfl) (show Try.prog.underlying 52 = some (.slice 5) by kernel_rfl)
  obtain ⟨l, hf, hln, hk⟩ := rows_of (form := fun x : Int => [.int .u8 x]) (ok := fun x : Int => True) (fun cs h => by
    obtain ⟨x, r, rfl, hx, h2⟩ := okZ (okT_flat h.2 (show flatK Try.prog 20 5 = some [.int .u8] by kernel_rfl))
    exact ⟨x, by rw [okN h2], trivial⟩) hr
  have e : (l.flatMap fun x : Int => [Value.int .u8 x]) = iv .u8 l := by
    clear hf hln hk
    induction l with
    | nil => rfl
    | cons x l ih => rw [List.flatMap_cons, ih]; rfl
  rw [hf, e] at hR
  exact ⟨A, l, q, by rw [hln], hR⟩
theorem flat_fm (F : Fm) (l : List F.α) : (l.flatMap fun a => c0den [] (F.sg a)) = fden F l := by
  induction l with
  | nil => rfl
  | cons a l ih => rw [List.flatMap_cons, ih]; rfl
set_option maxRecDepth 100000 in
theorem okDelayed {W : World} {c : List Value} {n : Nat} (h : OkT Try.prog W (n + 3) 54 c) : ∃ a : Int × Option Addr × List Int × Nat, c = c0den [] (fmDelayed.sg a) ∧ fmRd fmDelayed W a := by
  obtain ⟨c1, r1, rfl, o1, c2, r2, rfl, o2, rfl⟩ := okT_struct h (show isSt Try.prog 54 [3, 52] = true by kernel_rfl)
  obtain ⟨x, rfl⟩ := okI o1
  obtain ⟨A, l, q, rfl, hR⟩ := okBytes o2
  refine ⟨(x, A, l, q), rfl, fun o A' k l' hi => ?_⟩
  simp only [fmDelayed, cond_eq_ite] at hi
  split at hi
  · simp only [Option.some.injEq, Prod.mk.injEq] at hi
    obtain ⟨rfl, rfl, rfl⟩ := hi
    exact hR
  · cases hi
set_option maxRecDepth 100000 in
theorem okByt {W : World} {c : List Value} {n : Nat} (h : OkT Try.prog W (n + 2) 52 c) : ∃ a : Option Addr × List Int × Nat, c = c0den [] (fmBytes.sg a) ∧ fmRd fmBytes W a := by
  obtain ⟨A, l, q, rfl, hR⟩ := okBytes h
  refine ⟨(A, l, q), rfl, fun o A' k l' hi => ?_⟩
  simp only [fmBytes, cond_eq_ite] at hi
  split at hi
  · simp only [Option.some.injEq, Prod.mk.injEq] at hi
    obtain ⟨rfl, rfl, rfl⟩ := hi
    exact hR
  · cases hi
set_option maxRecDepth 100000 in
theorem okDs {W : World} {c : List Value} {n : Nat} (h : OkT Try.prog W (n + 4) 28 c) : ∃ (A : Option Addr) (l : List (Int × Option Addr × List Int × Nat)) (q : Nat), c = [.slice A l.length q] ∧ Rd W A (fden fmDelayed l ++ []) ∧ (∀ a ∈ l, fmRd fmDelayed W a) ∧ (A = none → l = []) := by
  obtain ⟨A, css, q, rfl, hr, hR, hl, hn, hs⟩ := okT_slice h (by kernel_rfl) (show Try.prog.underlying 28 = some (.slice 54) by kernel_rfl)
  obtain ⟨l, hf, hln, hk⟩ := rows_of (form := fun a : Int × Option Addr × List Int × Nat => c0den [] (fmDelayed.sg a)) (ok := fun a => fmRd fmDelayed W a) (fun cs h => okDelayed h.2) hr
  rw [hf, show (l.flatMap fun a : Int × Option Addr × List Int × Nat => c0den [] (fmDelayed.sg a)) = fden fmDelayed l from flat_fm fmDelayed l] at hR
  exact ⟨A, l, q, by rw [hln], by rw [List.append_nil]; exact hR, hk, fun h => List.eq_nil_of_length_eq_zero (by rw [hln, (hn h).1]; rfl)⟩
set_option maxRecDepth 100000 in
theorem okLs {W : World} {c : List Value} {n : Nat} (h : OkT Try.prog W (n + 3) 29 c) : ∃ (A : Option Addr) (l : List (Option Addr × List Int × Nat)) (q : Nat), c = [.slice A l.length q] ∧ Rd W A (fden fmBytes l ++ []) ∧ (∀ a ∈ l, fmRd fmBytes W a) ∧ (A = none → l = []) := by
  obtain ⟨A, css, q, rfl, hr, hR, hl, hn, hs⟩ := okT_slice h (by kernel_rfl) (show Try.prog.underlying 29 = some (.slice 52) by kernel_rfl)
  obtain ⟨l, hf, hln, hk⟩ := rows_of (form := fun a : Option Addr × List Int × Nat => c0den [] (fmBytes.sg a)) (ok := fun a => fmRd fmBytes W a) (fun cs h => okByt h.2) hr
  rw [hf, show (l.flatMap fun a : Option Addr × List Int × Nat => c0den [] (fmBytes.sg a)) = fden fmBytes l from flat_fm fmBytes l] at hR
  exact ⟨A, l, q, by rw [hln], by rw [List.append_nil]; exact hR, hk, fun h => List.eq_nil_of_length_eq_zero (by rw [hln, (hn h).1]; rfl)⟩
set_option maxRecDepth 100000 in
theorem okHs {W : World} {c : List Value} {n : Nat} (h : OkT Try.prog W (n + 2) 38 c) : ∃ (A : Option Addr) (l : List (List Int)) (q : Nat), c = [.slice A l.length q] ∧ Rd W A (fden fmHash l ++ []) ∧ (∀ a ∈ l, a.length = 32) := by
  obtain ⟨A, css, q, rfl, hr, hR, hl, hn, hs⟩ := okT_slice h (by kernel_rfl) (show Try.prog.underlying 38 = some (.slice 35) by kernel_rfl)
  obtain ⟨l, hf, hln, hk⟩ := rows_of (form := fun a : List Int => iv .u8 a) (ok := fun a : List Int => a.length = 32) (fun cs h => okH (okT_flat h.2 (show flatK Try.prog 20 35 = some (List.replicate 32 (.int .u8)) by kernel_rfl))) hr
  have e : (l.flatMap fun a => iv .u8 a) = fden fmHash l := by
    clear hf hln hk
    induction l with
    | nil => rfl
    | cons a l ih => rw [List.flatMap_cons, ih]; show iv .u8 a ++ _ = (iv .u8 a ++ []) ++ fden fmHash l; rw [List.append_nil]
  rw [hf, e] at hR
  exact ⟨A, l, q, by rw [hln], by rw [List.append_nil]; exact hR, hk⟩
set_option maxRecDepth 100000 in
theorem okSides {W : World} {c : List Value} {n : Nat} (h : OkT Try.prog W (n + 6) 33 c) : ∃ (i o : Int) (sp : List Bool) (p : List Int) (A : Option Addr) (qs : List (Int × Option Addr × List Int × Nat)) (cq : Nat) (t : Int) (B : Option Addr) (ls : List (Option Addr × List Int × Nat)) (e : Nat) (nx : Int),
    c = [.int .u64 i] ++ ([.int .u64 o] ++ (fden fmTruth sp ++ (iv .u64 p ++ ([.slice A qs.length cq] ++ ([.int .i64 t] ++ ([.slice B ls.length e] ++ ([.int .u64 nx] ++ []))))))) ∧
    sp.length = 32 ∧ p.length = 16 ∧ (A = none → qs = []) ∧ (B = none → ls = []) ∧ 0 ≤ i ∧ 0 ≤ o ∧ r64 p ∧ Rd W A (fden fmDelayed qs ++ []) ∧ (∀ a ∈ qs, fmRd fmDelayed W a) ∧ Rd W B (fden fmBytes ls ++ []) ∧ (∀ a ∈ ls, fmRd fmBytes W a) := by
  obtain ⟨c1, r1, rfl, o1, c2, r2, rfl, o2, c3, r3, rfl, o3, rfl⟩ := okT_struct h (show isSt Try.prog 33 [25, 27, 31] = true by kernel_rfl)
  obtain ⟨i, r, rfl, hi, h1⟩ := okZ (okT_flat o1 (show flatK Try.prog 20 25 = some (.int .u64 :: .int .u64 :: List.replicate 32 .bool) by kernel_rfl))
  obtain ⟨o, r, rfl, ho, h1⟩ := okZ h1
  obtain ⟨sp, rfl, hsp⟩ := okBs h1
  obtain ⟨p, rfl, hp, hpw⟩ := okC_iv (okT_flat o2 (show flatK Try.prog 20 27 = some (List.replicate 16 (.int .u64)) by kernel_rfl))
  obtain ⟨d1, s1, rfl, q1, d2, s2, rfl, q2, d3, s3, rfl, q3, d4, s4, rfl, q4, rfl⟩ := okT_struct o3 (show isSt Try.prog 31 [28, 3, 29, 22] = true by kernel_rfl)
  obtain ⟨A, qs, cq, rfl, hRq, hDq, hA⟩ := okDs q1
  obtain ⟨t, rfl⟩ := okI q2
  obtain ⟨B, ls, e, rfl, hRl, hDl, hB⟩ := okLs q3
  obtain ⟨nx, rfl, -, -⟩ := okU q4
  exact ⟨i, o, sp, p, A, qs, cq, t, B, ls, e, nx, by simp only [List.append_assoc, List.cons_append, List.nil_append, List.append_nil], hsp, hp, hA, hB, (wfU64 hi).1, (wfU64 ho).1, get_of_mem (p := fun x => 0 ≤ x ∧ x < 18446744073709551616) (by omega) (fun z hz => wfU64 (hpw z hz)), hRq, hDq, hRl, hDl⟩
set_option maxRecDepth 100000 in
theorem okAsk {W : World} {c : List Value} {n : Nat} (h : OkT Try.prog W (n + 4) 42 c) : ∃ (bk f to a : Int) (rt : List Int) (ix oa ob : Int) (C : Option Addr) (ws : List (List Int)) (wc : Nat) (oh : List Int) (on : Int),
    c = [.int .i64 bk] ++ ([.int .i64 f] ++ ([.int .u64 to] ++ ([.int .u64 a] ++ (iv .u8 rt ++ ([.int .i64 ix] ++ ([.int .u64 oa] ++ ([.int .u64 ob] ++ ([.slice C ws.length wc] ++ (iv .u8 oh ++ ([.int .u64 on] ++ [])))))))))) ∧
    rt.length = 32 ∧ (∀ a ∈ ws, a.length = 32) ∧ oh.length = 32 ∧ 0 ≤ a ∧ a < 18446744073709551616 ∧ 0 ≤ to ∧ to < 18446744073709551616 ∧ Rd W C (fden fmHash ws ++ []) := by
  obtain ⟨c1, r1, rfl, o1, c2, r2, rfl, o2, c3, r3, rfl, o3, c4, r4, rfl, o4, c5, r5, rfl, o5, c6, r6, rfl, o6, c7, r7, rfl, o7, c8, r8, rfl, o8, rfl⟩ := okT_struct h (show isSt Try.prog 42 [3, 3, 22, 22, 35, 3, 37, 40] = true by kernel_rfl)
  obtain ⟨bk, rfl⟩ := okI o1
  obtain ⟨f, rfl⟩ := okI o2
  obtain ⟨to, rfl, ht, ht2⟩ := okU o3
  obtain ⟨a, rfl, ha, ha2⟩ := okU o4
  obtain ⟨rt, rfl, hrt⟩ := okH (okT_flat o5 (show flatK Try.prog 20 35 = some (List.replicate 32 (.int .u8)) by kernel_rfl))
  obtain ⟨ix, rfl⟩ := okI o6
  obtain ⟨oa, r, rfl, -, h1⟩ := okZ (okT_flat o7 (show flatK Try.prog 20 37 = some [.int .u64, .int .u64] by kernel_rfl))
  obtain ⟨ob, r, rfl, -, h1⟩ := okZ h1
  obtain rfl := okN h1
  obtain ⟨d1, s1, rfl, q1, d2, s2, rfl, q2, d3, s3, rfl, q3, rfl⟩ := okT_struct o8 (show isSt Try.prog 40 [38, 35, 22] = true by kernel_rfl)
  obtain ⟨C, ws, wc, rfl, hRw, hws⟩ := okHs q1
  obtain ⟨oh, rfl, hoh⟩ := okH (okT_flat q2 (show flatK Try.prog 20 35 = some (List.replicate 32 (.int .u8)) by kernel_rfl))
  obtain ⟨on, rfl, -, -⟩ := okU q3
  exact ⟨bk, f, to, a, rt, ix, oa, ob, C, ws, wc, oh, on, by simp only [List.append_assoc, List.cons_append, List.nil_append, List.append_nil], hrt, hws, hoh, ha, ha2, ht, ht2, hRw⟩
theorem own : ownKnob Try.prog.godebug = none := by kernel_rfl
theorem laidOut : laidOutB Try.prog = true := by kernel_rfl

set_option maxRecDepth 100000 in
set_option maxHeartbeats 4000000 in
theorem lifted (os : Os) (started : os.Started) (H : Type) (enc : TypeId × Value → H) :
    ReturnsInHanded {} Try.checked os 3 .any (Rows.bridgeDepositsSpec.pre6 enc Try.prog Try.f3 Rows.bridgeDepositsRow.domain false) (Rows.bridgeDepositsSpec.post enc Try.prog Try.f3 false true false false) := by
  refine returnsInHanded_of_change_sized (C := Try.checked) own started (by kernel_rfl) Try.func3
    (ChangeSpec.witness6 (enc := enc) (C := Try.checked) false ⟨#[], #[.agg (#[.int .u64 0, .int .u64 0] ++ Array.replicate 32 (.bool false) ++ Array.replicate 16 (.int .u64 0) ++ #[.slice none 0 0, .int .i64 0, .slice none 0 0, .int .u64 0]), .agg (#[.int .i64 0, .int .i64 0, .int .u64 0, .int .u64 0] ++ Array.replicate 32 (.int .u8 0) ++ #[.int .i64 0, .int .u64 0, .int .u64 0, .slice none 0 0] ++ Array.replicate 32 (.int .u8 0) ++ #[.int .u64 0])], []⟩ 8 (by kernel_rfl) (by kernel_rfl) (by kernel_rfl) (by kernel_rfl)) ?_
  intro W base args ds gs before hval0 hW hcnd hsz0 _
  have hval : ∀ (j : Nat) t v, Try.f3.params[j]? = some t → args[j]? = some v → Value.okWide Try.prog W .any base t v := hval0
  have hW' := hW
  obtain ⟨p, q, hA0, hV, rfl, hfz, hnd⟩ := hW
  have hA : DataW.TrodAll enc Try.prog W 0 (fun _ => true) true Try.f3.params.toList args.toList ds p := hA0
  have hsz : (DataW.weightsEach Try.prog (Try.f3.params.toList ++ Rows.bridgeDepositsSpec.plain.varTypes Try.prog) (ds ++ gs)).all (· ≤ reachBytes) = true := hsz0
  have hpa : Try.f3.params = #[33, 42] := by kernel_rfl
  rw [hpa] at hA hval hsz
  obtain ⟨v0, vs0, d0, ds0, p0, q0, hargs, rfl, rfl, h0, r0⟩ := trodAll_cons hA
  obtain ⟨v1, vs1, d1, ds1, p1, q1, rfl, rfl, rfl, h1, r1⟩ := trodAll_cons r0
  obtain ⟨rfl, rfl, rfl⟩ := trodAll_nil r1
  obtain rfl : args = #[v0, v1] := by cases args; simp_all
  obtain ⟨rfl, rfl⟩ := trodVars_none hV
  have k0 := h0
  have lt0 : ∀ x ∈ p0, x.block < W.heap.size := by obtain ⟨m, hm⟩ := k0; exact DataW.trod_lt m _ _ _ hm
  have u0 := hval 0 33 v0 rfl rfl
  have o0 := okT_arg 7 0 hsz rfl rfl k0 (by kernel_rfl)
  obtain ⟨cs0, rfl, os0⟩ := open_dst (show isStr Try.prog 33 = true by kernel_rfl) u0 o0
  obtain ⟨i, o, sp, p, A, qs, cq, t, B, ls, e, nx, rfl, hsp, hp, hA', hB', hi, ho, hr, hRq, hDq, hRl, hDl⟩ := okSides os0
  have k1 := h1
  have lt1 : ∀ x ∈ p1, x.block < W.heap.size := by obtain ⟨m, hm⟩ := k1; exact DataW.trod_lt m _ _ _ hm
  have u1 := hval 1 42 v1 rfl rfl
  have o1 := okT_arg 7 1 hsz rfl rfl k1 (by kernel_rfl)
  obtain ⟨cs1, rfl, os1⟩ := open_dst (show isStr Try.prog 42 = true by kernel_rfl) u1 o1
  obtain ⟨bk, f, to, a, rt, ix, oa, ob, C, ws, wc, oh, on, rfl, hrt, hws, hoh, ha, ha2, ht, ht2, hRw⟩ := okAsk os1
  have hw := law_lawDeposits W i o sp p A qs cq t B ls e nx bk f to a rt ix oa ob C ws wc oh on hsp hp hrt hws hoh hA' hB' ha ha2 ht ht2 hi ho hr hRq hDq hRl hDl hRw
  clear hA0 hval0 hsz0
  refine (hw).mono fun e W' ⟨he, hH⟩ => ?_
  subst he
  exact ⟨_, rfl, _, _, _, [], _, [], hW', trodAll_mk1 (shut_bool (show Try.prog.underlying 4 = some .bool by kernel_rfl) _), (trodAll_cons_mk (Below.trod laidOut (by kernel_rfl) (of_decide_eq_true (by kernel_rfl)) k0 hH.below lt0) (trodAll_cons_mk (Below.trod laidOut (by kernel_rfl) (of_decide_eq_true (by kernel_rfl)) k1 hH.below lt1) trodAll_mk0)), rfl, hH.below.frame _, fun h => by cases h⟩

theorem over : Rows.bridgeDepositsRow.holds Try.pinned (OpenSpec.ofChange Rows.bridgeDepositsSpec) :=
  OpenClaim.holds_of_wide 3 Try.f3 rfl rfl rfl rfl rfl rfl rfl ⟨rfl, rfl, rfl, rfl, rfl⟩ rfl rfl rfl rfl rfl (by kernel_rfl) Try.func3 (by kernel_rfl)
    (of_decide_eq_true (by kernel_rfl)) (by unfold Func.isWrapper; first | (rw [if_pos (by decide +kernel)]; kernel_rfl) | (rw [if_neg (by decide +kernel)]; exact ⟨rfl, rfl⟩))
    (fun os started H enc _ => lifted os started H enc)

/-- The statement. -/
theorem proved : Rows.BridgeDepositsSaid := over
#print axioms proved
end Go.Proofs.Ytnkancamlnepkaa.bridgeDepositsDone
