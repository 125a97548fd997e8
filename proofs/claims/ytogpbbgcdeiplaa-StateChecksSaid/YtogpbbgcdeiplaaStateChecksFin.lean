/-
  The law StateChecks holds at every input: what checks against a root, and accounts' and withdrawals' bytes, are as the document says. Its conditions: none beside the statement's own.
-/
import Derived.Test.YtogpbbgcdeiplaaRows
import Derived.Test.YtogpbbgcdeiplaaSc5
import Derived.WalkKit
import Derived.ProofKit
import Derived.OpenShut
import Derived.ShutString
import Derived.ChangeOld
import Derived.Below
import Derived.SizedLaws
namespace Go.Proofs.Ytogpbbgcdeiplaa.stateChecksDone
open Go.ChangeShapes Go.WideShapes Go.ChangeAt Go.RowKit Go.Px Go.Proofs.Ytogpbbgcdeiplaa
open Go.ChangeMaps (open_string shut_string)
set_option linter.all false

open Go.Pw
theorem okHash {cs : List Value} (h : OkC (List.replicate 32 (.int .u8)) cs) : ∃ a : List Int, cs = iv .u8 a ∧ (a.length = 32 ∧ rg a) := by
  obtain ⟨a, rfl, h1, h2⟩ := okC_iv h
  exact ⟨a, rfl, h1, get_of_mem (p := fun x => 0 ≤ x ∧ x < 256) (by omega) (fun z hz => wfU8 (h2 z hz))⟩
theorem flat_hash (l : List (List Int)) : (l.flatMap fun a => iv .u8 a) = fden fmHash l := by
  induction l with
  | nil => rfl
  | cons a l ih => rw [List.flatMap_cons, ih]; show iv .u8 a ++ _ = (iv .u8 a ++ []) ++ fden fmHash l; rw [List.append_nil]

set_option maxRecDepth 100000 in
theorem okHashes {W : World} {c : List Value} {n : Nat} (h : OkT Try.prog W (n + 2) 43 c) : ∃ (A : Option Addr) (l : List (List Int)) (q : Nat), c = [.slice A l.length q] ∧ Rd W A (fden fmHash l ++ []) ∧ (∀ a ∈ l, a.length = 32) ∧ (∀ a ∈ l, rg a) ∧ l.length ≤ q ∧ q * 32 ≤ reachBytes := by
  obtain ⟨A, css, q, rfl, hr, hR, hl, hn, hs⟩ := okT_slice h (by kernel_rfl) (show Try.prog.underlying 43 = some (.slice 40) by kernel_rfl)
  obtain ⟨l, hf, hln, hk⟩ := rows_of (form := fun a : List Int => iv .u8 a) (ok := fun a : List Int => a.length = 32 ∧ rg a) (fun cs h => okHash (okT_flat h.2 (show flatK Try.prog 20 40 = some (List.replicate 32 (.int .u8)) by kernel_rfl))) hr
  rw [hf, flat_hash] at hR
  refine ⟨A, l, q, by rw [hln], by rw [List.append_nil]; exact hR, fun a ha => (hk a ha).1, fun a ha => (hk a ha).2, by omega, ?_⟩
  rw [show Try.prog.bytesOf 40 = 32 by kernel_rfl] at hs
  exact hs
theorem reach47 : reachBytes < 140737488355328 := by decide
theorem okZ {k : IntKind} {ks : List CK} {cs : List Value} (h : OkC (.int k :: ks) cs) : ∃ (x : Int) (r : List Value), cs = .int k x :: r ∧ (Lit.int k x).wf = true ∧ OkC ks r := by
  obtain ⟨c, r, rfl, ⟨x, rfl, hx⟩, h2⟩ := okC_cons h
  exact ⟨x, r, rfl, hx, h2⟩
theorem okN {cs : List Value} (h : OkC [] cs) : cs = [] := by cases h; rfl
set_option maxRecDepth 100000 in
theorem okThing {c : List Value} (h : OkC (.int .u64 :: .int .u64 :: (List.replicate 32 (CK.int .u8) ++ (.int .u64 :: .int .u64 :: List.replicate 32 (CK.int .u8)))) c) : ∃ (b n : Int) (lk : List Int) (to am : Int) (root : List Int), c = [.int .u64 b] ++ ([.int .u64 n] ++ (iv .u8 lk ++ ([.int .u64 to] ++ ([.int .u64 am] ++ (iv .u8 root ++ []))))) ∧ lk.length = 32 ∧ rg lk ∧ root.length = 32 := by
  obtain ⟨b, r, rfl, -, h1⟩ := okZ h
  obtain ⟨n, r, rfl, -, h1⟩ := okZ h1
  obtain ⟨c1, c2, rfl, h1, h2⟩ := okC_split h1
  obtain ⟨lk, rfl, hl, hg⟩ := okHash h1
  obtain ⟨to, r, rfl, -, h2⟩ := okZ h2
  obtain ⟨am, r, rfl, -, h2⟩ := okZ h2
  obtain ⟨root, rfl, hr, -⟩ := okHash h2
  exact ⟨b, n, lk, to, am, root, by simp only [List.append_assoc, List.cons_append, List.nil_append, List.append_nil], hl, hg, hr⟩
set_option maxRecDepth 100000 in
theorem okWit {W : World} {c : List Value} {n : Nat} (h : OkT Try.prog W (n + 3) 45 c) : ∃ (P : Option Addr) (ps : List (List Int)) (pc : Nat) (oth : List Int) (cnt : Int), c = [.slice P ps.length pc] ++ (iv .u8 oth ++ ([.int .u64 cnt] ++ [])) ∧ (∀ a ∈ ps, a.length = 32) ∧ (∀ a ∈ ps, rg a) ∧ oth.length = 32 ∧ rg oth ∧ Rd W P (fden fmHash ps ++ []) := by
  obtain ⟨d1, s1, rfl, q1, d2, s2, rfl, q2, d3, s3, rfl, q3, rfl⟩ := okT_struct h (show isSt Try.prog 45 [43, 40, 22] = true by kernel_rfl)
  obtain ⟨P, ps, pc, rfl, hR, hl, hg, -, -⟩ := okHashes q1
  obtain ⟨oth, rfl, ho, go⟩ := okHash (okT_flat q2 (show flatK Try.prog 20 40 = some (List.replicate 32 (.int .u8)) by kernel_rfl))
  obtain ⟨cnt, r, rfl, -, h3⟩ := okZ (okT_flat q3 (show flatK Try.prog 20 22 = some [.int .u64] by kernel_rfl))
  obtain rfl := okN h3
  exact ⟨P, ps, pc, oth, cnt, by simp only [List.append_assoc, List.cons_append, List.nil_append, List.append_nil], hl, hg, ho, go, hR⟩
theorem own : ownKnob Try.prog.godebug = none := by kernel_rfl
theorem laidOut : laidOutB Try.prog = true := by kernel_rfl

set_option maxRecDepth 100000 in
set_option maxHeartbeats 4000000 in
theorem lifted (os : Os) (started : os.Started) (H : Type) (enc : TypeId × Value → H) :
    ReturnsInHanded {} Try.checked os 8 .any (Rows.stateChecksSpec.pre6 enc Try.prog Try.f8 Rows.stateChecksRow.domain false) (Rows.stateChecksSpec.post enc Try.prog Try.f8 false true false false) := by
  refine returnsInHanded_of_change_sized (C := Try.checked) own started (by kernel_rfl) Try.func8
    (ChangeSpec.witness6 (enc := enc) (C := Try.checked) false ⟨#[], #[.int .i64 0, .agg ([Value.int .u64 0, Value.int .u64 0] ++ List.replicate 32 (Value.int .u8 0) ++ [Value.int .u64 0, Value.int .u64 0] ++ List.replicate 32 (Value.int .u8 0)).toArray, .agg ([Value.slice none 0 0] ++ List.replicate 32 (Value.int .u8 0) ++ [Value.int .u64 0]).toArray], []⟩ 8 (by kernel_rfl) (by kernel_rfl) (by kernel_rfl) (by kernel_rfl)) ?_
  intro W base args ds gs before hval0 hW hcnd hsz0 _
  have hval : ∀ (j : Nat) t v, Try.f8.params[j]? = some t → args[j]? = some v → Value.okWide Try.prog W .any base t v := hval0
  have hW' := hW
  obtain ⟨p, q, hA0, hV, rfl, hfz, hnd⟩ := hW
  have hA : DataW.TrodAll enc Try.prog W 0 (fun _ => true) true Try.f8.params.toList args.toList ds p := hA0
  have hsz : (DataW.weightsEach Try.prog (Try.f8.params.toList ++ Rows.stateChecksSpec.plain.varTypes Try.prog) (ds ++ gs)).all (· ≤ reachBytes) = true := hsz0
  have hpa : Try.f8.params = #[3, 75, 45] := by kernel_rfl
  rw [hpa] at hA hval hsz
  obtain ⟨v0, vs0, d0, ds0, p0, q0, hargs, rfl, rfl, h0, r0⟩ := trodAll_cons hA
  obtain ⟨v1, vs1, d1, ds1, p1, q1, rfl, rfl, rfl, h1, r1⟩ := trodAll_cons r0
  obtain ⟨v2, vs2, d2, ds2, p2, q2, rfl, rfl, rfl, h2, r2⟩ := trodAll_cons r1
  obtain ⟨rfl, rfl, rfl⟩ := trodAll_nil r2
  obtain rfl : args = #[v0, v1, v2] := by cases args; simp_all
  obtain ⟨rfl, rfl⟩ := trodVars_none hV
  have k0 := h0
  have lt0 : ∀ x ∈ p0, x.block < W.heap.size := by obtain ⟨m, hm⟩ := k0; exact DataW.trod_lt m _ _ _ hm
  have u0 := hval 0 3 v0 rfl rfl
  obtain ⟨i, rfl, -, -, hwi⟩ := open_int (show Try.prog.underlying 3 = some (.int .i64) by kernel_rfl) u0 h0
  have k1 := h1
  have lt1 : ∀ x ∈ p1, x.block < W.heap.size := by obtain ⟨m, hm⟩ := k1; exact DataW.trod_lt m _ _ _ hm
  have u1 := hval 1 75 v1 rfl rfl
  obtain ⟨cs1, rfl, hc1⟩ := open_str (by kernel_rfl) (show flatK Try.prog 20 75 = some (.int .u64 :: .int .u64 :: (List.replicate 32 (CK.int .u8) ++ (.int .u64 :: .int .u64 :: List.replicate 32 (CK.int .u8)))) by kernel_rfl) u1 h1
  obtain ⟨b, nn, lk, to, am, root, rfl, hlk, glk, hroot⟩ := okThing hc1
  have k2 := h2
  have lt2 : ∀ x ∈ p2, x.block < W.heap.size := by obtain ⟨m, hm⟩ := k2; exact DataW.trod_lt m _ _ _ hm
  have u2 := hval 2 45 v2 rfl rfl
  have o2 := okT_arg 7 2 hsz rfl rfl k2 (by kernel_rfl)
  obtain ⟨cs2, rfl, os2⟩ := open_dst (show isStr Try.prog 45 = true by kernel_rfl) u2 o2
  obtain ⟨P, ps, pc, oth, cnt, rfl, hps, gps, hoth, goth, hRp⟩ := okWit os2
  have hw := law_lawSChecks W i b nn lk to am root P ps pc oth cnt hlk hroot hps hoth gps goth glk hRp
  clear hA0 hval0 hsz0
  refine (hw).mono fun e W' ⟨he, hH⟩ => ?_
  subst he
  exact ⟨_, rfl, _, _, _, [], _, [], hW', trodAll_mk1 (shut_bool (show Try.prog.underlying 4 = some .bool by kernel_rfl) _), (trodAll_cons_mk (Below.trod laidOut (by kernel_rfl) (of_decide_eq_true (by kernel_rfl)) k0 hH.below lt0) (trodAll_cons_mk (Below.trod laidOut (by kernel_rfl) (of_decide_eq_true (by kernel_rfl)) k1 hH.below lt1) (trodAll_cons_mk (Below.trod laidOut (by kernel_rfl) (of_decide_eq_true (by kernel_rfl)) k2 hH.below lt2) trodAll_mk0))), rfl, hH.below.frame _, fun h => by cases h⟩

theorem over : Rows.stateChecksRow.holds Try.pinned (OpenSpec.ofChange Rows.stateChecksSpec) :=
  OpenClaim.holds_of_wide 8 Try.f8 rfl rfl rfl rfl rfl rfl rfl ⟨rfl, rfl, rfl, rfl, rfl⟩ rfl rfl rfl rfl rfl (by kernel_rfl) Try.func8 (by kernel_rfl)
    (of_decide_eq_true (by kernel_rfl)) (by unfold Func.isWrapper; first | (rw [if_pos (by decide +kernel)]; kernel_rfl) | (rw [if_neg (by decide +kernel)]; exact ⟨rfl, rfl⟩))
    (fun os started H enc _ => lifted os started H enc)

/-- The statement. -/
theorem proved : Rows.StateChecksSaid := over
#print axioms proved
end Go.Proofs.Ytogpbbgcdeiplaa.stateChecksDone
