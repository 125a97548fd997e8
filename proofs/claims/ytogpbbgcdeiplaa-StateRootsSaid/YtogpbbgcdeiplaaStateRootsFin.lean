/-
  The law StateRoots holds at every input: which states may be, their totals, bytes, roots and witnesses are as the document says, or its error. Its conditions: none beside the statement's own.
-/
import Derived.Test.YtogpbbgcdeiplaaRows
import Derived.Test.YtogpbbgcdeiplaaSr6
import Derived.WalkKit
import Derived.ProofKit
import Derived.OpenShut
import Derived.ShutString
import Derived.ChangeOld
import Derived.Below
import Derived.SizedLaws
namespace Go.Proofs.Ytogpbbgcdeiplaa.stateRootsDone
open Go.ChangeShapes Go.WideShapes Go.ChangeAt Go.RowKit Go.Px Go.Proofs.Ytogpbbgcdeiplaa
open Go.ChangeMaps (open_string shut_string)
set_option linter.all false

open Go.Pw
theorem okZ {k : IntKind} {ks : List CK} {cs : List Value} (h : OkC (.int k :: ks) cs) : ∃ (x : Int) (r : List Value), cs = .int k x :: r ∧ (Lit.int k x).wf = true ∧ OkC ks r := by
  obtain ⟨c, r, rfl, ⟨x, rfl, hx⟩, h2⟩ := okC_cons h
  exact ⟨x, r, rfl, hx, h2⟩
theorem okN {cs : List Value} (h : OkC [] cs) : cs = [] := by cases h; rfl
theorem okBs : ∀ {n : Nat} {cs : List Value}, OkC (List.replicate n .bool) cs → ∃ l : List Bool, cs = fden fmTruth l ∧ l.length = n
  | 0, cs, h => ⟨[], okN h, rfl⟩
  | n + 1, cs, h => by
    rw [List.replicate_succ] at h
    obtain ⟨c, r, rfl, ⟨x, rfl⟩, h2⟩ := okC_cons h
    obtain ⟨l, rfl, hl⟩ := okBs h2
    exact ⟨x :: l, rfl, by simp [hl]⟩
theorem okH {cs : List Value} (h : OkC (List.replicate 32 (.int .u8)) cs) : ∃ a : List Int, cs = iv .u8 a ∧ a.length = 32 := by
  obtain ⟨a, rfl, h1, h2⟩ := okC_iv h
  exact ⟨a, rfl, h1⟩
theorem flat_fm (F : Fm) (l : List F.α) : (l.flatMap fun a => c0den [] (F.sg a)) = fden F l := by
  induction l with
  | nil => rfl
  | cons a l ih => rw [List.flatMap_cons, ih]; rfl
set_option maxRecDepth 100000 in
theorem okAccount {c : List Value} (h : OkC (.int .u64 :: .int .u64 :: List.replicate 32 (.int .u8)) c) : ∃ a : Int × Int × List Int, c = c0den [] (fmAccount.sg a) ∧ (a.2.2.length = 32 ∧ rg a.2.2 ∧ (0 ≤ a.1 ∧ a.1 < 18446744073709551616)) := by
  obtain ⟨x, r, rfl, hx, h1⟩ := okZ h
  obtain ⟨y, r, rfl, hy, h1⟩ := okZ h1
  obtain ⟨l, rfl, hl, hw⟩ := okC_iv h1
  exact ⟨(x, y, l), by simp [fmAccount, c0den, Sg0.den, S0.den], hl, get_of_mem (p := fun x => 0 ≤ x ∧ x < 256) (by omega) (fun z hz => wfU8 (hw z hz)), wfU64 hx⟩
theorem okC_rep {k : List CK} {α : Type} {form : α → List Value} {ok : α → Prop} (h : ∀ c, OkC k c → ∃ a, c = form a ∧ ok a) : ∀ {n : Nat} {cs : List Value}, OkC ((List.replicate n k).flatten) cs → ∃ l : List α, cs = l.flatMap form ∧ l.length = n ∧ ∀ a ∈ l, ok a
  | 0, cs, hc => ⟨[], okN hc, rfl, by simp⟩
  | n + 1, cs, hc => by
    rw [List.replicate_succ, List.flatten_cons] at hc
    obtain ⟨c1, c2, rfl, h1, h2⟩ := okC_split hc
    obtain ⟨a, rfl, ha⟩ := h c1 h1
    obtain ⟨l, rfl, hl, hk⟩ := okC_rep h h2
    exact ⟨a :: l, rfl, by simp [hl], by simpa [ha] using hk⟩
set_option maxRecDepth 100000 in
theorem okOut {c : List Value} (h : OkC [.int .u64, .int .u64] c) : ∃ a : Int × Int, c = c0den [] (fmOut.sg a) ∧ ((0 ≤ a.1 ∧ a.1 < 18446744073709551616) ∧ (0 ≤ a.2 ∧ a.2 < 18446744073709551616)) := by
  obtain ⟨x, r, rfl, hx, h1⟩ := okZ h
  obtain ⟨y, r, rfl, hy, h1⟩ := okZ h1
  obtain rfl := okN h1
  exact ⟨(x, y), rfl, wfU64 hx, wfU64 hy⟩
set_option maxRecDepth 100000 in
theorem okState {W : World} {c : List Value} {n : Nat} (h : OkT Try.prog W (n + 3) 59 c) : ∃ (acc : List (Int × Int × List Int)) (A : Option Addr) (ou : List (Int × Int)) (q : Nat),
    c = fden fmAccount acc ++ ([.slice A ou.length q] ++ []) ∧ acc.length = 32 ∧ (∀ a ∈ acc, a.2.2.length = 32) ∧ a64 acc ∧ (∀ a ∈ acc, rg a.2.2) ∧
    (∀ j, (0 ≤ (ou.getD j (0, 0)).1 ∧ (ou.getD j (0, 0)).1 < 18446744073709551616) ∧ (0 ≤ (ou.getD j (0, 0)).2 ∧ (ou.getD j (0, 0)).2 < 18446744073709551616)) ∧ Rd W A (fden fmOut ou ++ []) ∧ ou.length ≤ 140737488355328 := by
  obtain ⟨c1, r1, rfl, o1, c2, r2, rfl, o2, rfl⟩ := okT_struct h (show isSt Try.prog 59 [56, 57] = true by kernel_rfl)
  obtain ⟨acc, rfl, hl, hk⟩ := okC_rep (form := fun a : Int × Int × List Int => c0den [] (fmAccount.sg a)) (ok := fun a => a.2.2.length = 32 ∧ rg a.2.2 ∧ (0 ≤ a.1 ∧ a.1 < 18446744073709551616)) (fun c h => okAccount h) (n := 32) (okT_flat o1 (show flatK Try.prog 20 56 = some ((List.replicate 32 (.int .u64 :: .int .u64 :: List.replicate 32 (.int .u8))).flatten) by kernel_rfl))
  obtain ⟨A, css, q, rfl, hr, hR, hln, hn, hb⟩ := okT_slice o2 (by kernel_rfl) (show Try.prog.underlying 57 = some (.slice 42) by kernel_rfl)
  obtain ⟨ou, hf, hol, hok⟩ := rows_of (form := fun a : Int × Int => c0den [] (fmOut.sg a)) (ok := fun a => (0 ≤ a.1 ∧ a.1 < 18446744073709551616) ∧ (0 ≤ a.2 ∧ a.2 < 18446744073709551616)) (fun cs h => okOut (okT_flat h.2 (show flatK Try.prog 20 42 = some [.int .u64, .int .u64] by kernel_rfl))) hr
  rw [hf, show (ou.flatMap fun a : Int × Int => c0den [] (fmOut.sg a)) = fden fmOut ou from flat_fm fmOut ou] at hR
  refine ⟨acc, A, ou, q, by rw [hol, show (acc.flatMap fun a : Int × Int × List Int => c0den [] (fmAccount.sg a)) = fden fmAccount acc from flat_fm fmAccount acc], hl, fun a ha => (hk a ha).1, fun j => ?_, fun a ha => (hk a ha).2.1, fun j => ?_, by rw [List.append_nil]; exact hR, by
    rw [show Try.prog.bytesOf 42 = 16 by kernel_rfl] at hb
    have h47 : reachBytes < 140737488355328 := by decide
    omega⟩
  · by_cases hj : j < acc.length
    · have := (hk _ (gd_mem (d := (0, 0, List.replicate 32 0)) hj)).2.2
      exact this
    · rw [List.getD_eq_getElem?_getD, List.getElem?_eq_none (by omega)]
      simp
  · by_cases hj : j < ou.length
    · exact hok _ (gd_mem hj)
    · rw [List.getD_eq_getElem?_getD, List.getElem?_eq_none (by omega)]
      simp
def chkC (P : Program) (w : World) : List TypeId → List Value → Bool
  | [], [] => true
  | t :: ts, v :: vs => Cell.okWideB P w t v && chkC P w ts vs
  | _, _ => false
theorem chkC_spec {P : Program} {w : World} : ∀ {ts : List TypeId} {vs : List Value}, chkC P w ts vs = true → ts.length = vs.length ∧ ∀ (i : Nat) (t : TypeId) (v : Value), ts[i]? = some t → vs[i]? = some v → Cell.okWideB P w t v = true
  | [], [], _ => ⟨rfl, fun i t v h => by simp at h⟩
  | t :: ts, v :: vs, h => by
    simp only [chkC, Bool.and_eq_true] at h
    obtain ⟨h1, h2⟩ := chkC_spec h.2
    refine ⟨by simp [h1], fun i t' v' ht hv => ?_⟩
    cases i with
    | zero =>
      simp only [List.getElem?_cons_zero, Option.some.injEq] at ht hv
      subst ht hv; exact h.1
    | succ i => exact h2 i t' v' (by simpa using ht) (by simpa using hv)
  | [], _ :: _, h => by simp [chkC] at h
  | _ :: _, [], h => by simp [chkC] at h
theorem okStr {P : Program} {w : World} {t : TypeId} {ts : List TypeId} {cs : List Value} (hu : isStr P t = true) (hc : P.cellsOf t = cs.length) (hts : P.cellTypes P.depth t = some ts) (h : chkC P w ts cs = true) : Value.okWideB P w t (.agg cs.toArray) = true := by
  obtain ⟨fs, hu⟩ := isStr_some hu
  obtain ⟨h1, h2⟩ := chkC_spec h
  unfold Value.okWideB
  simp only [hu, List.size_toArray, hc, beq_self_eq_true, Bool.true_and]
  unfold Cell.okWideRowB
  simp only [hts, List.size_toArray, Bool.and_eq_true, beq_iff_eq, List.all_eq_true, List.mem_range]
  refine ⟨by rw [h1]; exact Nat.mod_self _, fun i hi => ?_⟩
  have hi2 : i < ts.length := by omega
  rw [Nat.mod_eq_of_lt hi2]
  have e1 : cs.toArray[i]? = some cs[i] := by simp [hi]
  rw [e1, List.getElem?_eq_getElem hi2]
  exact h2 i _ _ (List.getElem?_eq_getElem hi2) (List.getElem?_eq_getElem hi)
theorem okIn {P : Program} {w : World} {f : FuncId} {fn : Func} {ts : List TypeId} {vs : List Value} (hf : P.funcs[f]? = some fn) (hi : (P.inits.idxOf? f).isNone = true) (hb : fn.body.isSome = true) (ho : fn.ours = false) (hn : fn.nfree = 0) (hp : fn.params = ts.toArray) (hl : vs.length = ts.length)
    (h : ∀ (j : Nat) (t : TypeId) (v : Value), ts[j]? = some t → vs[j]? = some v → Value.okWideB P w t v = true) : Input.okWideB P w f ⟨#[], vs.toArray, []⟩ = true := by
  unfold Input.okWideB
  simp only [hf, hi, hb, ho, hn, hp, List.size_toArray, hl, List.all_nil, Bool.true_and, List.isEmpty_nil, Bool.not_false, beq_self_eq_true, List.all_eq_true, List.mem_range]
  intro j hj
  have hj2 : j < vs.length := by omega
  have e1 : ts.toArray[j]? = some ts[j] := by simp [hj]
  have e2 : vs.toArray[j]? = some vs[j] := by simp [hj2]
  rw [e1, e2]
  exact h j _ _ (List.getElem?_eq_getElem hj) (List.getElem?_eq_getElem hj2)
theorem own : ownKnob Try.prog.godebug = none := by kernel_rfl
theorem laidOut : laidOutB Try.prog = true := by kernel_rfl

set_option maxRecDepth 100000 in
set_option maxHeartbeats 4000000 in
theorem lifted (os : Os) (started : os.Started) (H : Type) (enc : TypeId × Value → H) :
    ReturnsInHanded {} Try.checked os 10 .any (Rows.stateRootsSpec.pre6 enc Try.prog Try.f10 Rows.stateRootsRow.domain false) (Rows.stateRootsSpec.post enc Try.prog Try.f10 false true false false) := by
  refine returnsInHanded_of_change_sized (C := Try.checked) own started (by kernel_rfl) Try.func10
    (ChangeSpec.witness6 (enc := enc) (C := Try.checked) false ⟨#[], #[.agg ((List.replicate 32 (Value.int .u64 0 :: Value.int .u64 0 :: List.replicate 32 (Value.int .u8 0))).flatten ++ [Value.slice none 0 0]).toArray, .agg ((List.replicate 32 (Value.int .u64 0 :: Value.int .u64 0 :: List.replicate 32 (Value.int .u8 0))).flatten ++ [Value.slice none 0 0]).toArray, .int .i64 0], []⟩ 8 (by kernel_rfl) (by kernel_rfl)
    (okIn (fn := Try.f10) (ts := [59, 59, 3]) (vs := [.agg ((List.replicate 32 (Value.int .u64 0 :: Value.int .u64 0 :: List.replicate 32 (Value.int .u8 0))).flatten ++ [Value.slice none 0 0]).toArray, .agg ((List.replicate 32 (Value.int .u64 0 :: Value.int .u64 0 :: List.replicate 32 (Value.int .u8 0))).flatten ++ [Value.slice none 0 0]).toArray, .int .i64 0]) (by kernel_rfl) (by kernel_rfl) (by kernel_rfl) (by kernel_rfl) (by kernel_rfl) (by kernel_rfl) rfl (fun j t v ht hv => match j, ht, hv with
    | 0 , ht, hv => by simp only [List.getElem?_cons_succ, List.getElem?_cons_zero, Option.some.injEq] at ht hv; subst ht hv; exact (okStr (show isStr Try.prog 59 = true by kernel_rfl) (by kernel_rfl) (ts := (List.replicate 32 (22 :: 22 :: List.replicate 32 5)).flatten ++ [57]) (by kernel_rfl) (by kernel_rfl))
    | 1 , ht, hv => by simp only [List.getElem?_cons_succ, List.getElem?_cons_zero, Option.some.injEq] at ht hv; subst ht hv; exact (okStr (show isStr Try.prog 59 = true by kernel_rfl) (by kernel_rfl) (ts := (List.replicate 32 (22 :: 22 :: List.replicate 32 5)).flatten ++ [57]) (by kernel_rfl) (by kernel_rfl))
    | 2 , ht, hv => by simp only [List.getElem?_cons_succ, List.getElem?_cons_zero, Option.some.injEq] at ht hv; subst ht hv; exact (by kernel_rfl)
    | _ + 3, ht, _ => by simp at ht))
    (by kernel_rfl)) ?_
  intro W base args ds gs before hval0 hW hcnd hsz0 _
  have hval : ∀ (j : Nat) t v, Try.f10.params[j]? = some t → args[j]? = some v → Value.okWide Try.prog W .any base t v := hval0
  have hW' := hW
  obtain ⟨p, q, hA0, hV, rfl, hfz, hnd⟩ := hW
  have hA : DataW.TrodAll enc Try.prog W 0 (fun _ => true) true Try.f10.params.toList args.toList ds p := hA0
  have hsz : (DataW.weightsEach Try.prog (Try.f10.params.toList ++ Rows.stateRootsSpec.plain.varTypes Try.prog) (ds ++ gs)).all (· ≤ reachBytes) = true := hsz0
  have hpa : Try.f10.params = #[59, 59, 3] := by kernel_rfl
  rw [hpa] at hA hval hsz
  obtain ⟨v0, vs0, d0, ds0, p0, q0, hargs, rfl, rfl, h0, r0⟩ := trodAll_cons hA
  obtain ⟨v1, vs1, d1, ds1, p1, q1, rfl, rfl, rfl, h1, r1⟩ := trodAll_cons r0
  obtain ⟨v2, vs2, d2, ds2, p2, q2, rfl, rfl, rfl, h2, r2⟩ := trodAll_cons r1
  obtain ⟨rfl, rfl, rfl⟩ := trodAll_nil r2
  obtain rfl : args = #[v0, v1, v2] := by cases args; simp_all
  obtain ⟨rfl, rfl⟩ := trodVars_none hV
  have k0 := h0
  have lt0 : ∀ x ∈ p0, x.block < W.heap.size := by obtain ⟨m, hm⟩ := k0; exact DataW.trod_lt m _ _ _ hm
  have u0 := hval 0 59 v0 rfl rfl
  have o0 := okT_arg 7 0 hsz rfl rfl k0 (by kernel_rfl)
  obtain ⟨cs0, rfl, os0⟩ := open_dst (show isStr Try.prog 59 = true by kernel_rfl) u0 o0
  obtain ⟨acc, A, ou, cq, rfl, hac, hlk, hae, hge, hO, hRo, hon⟩ := okState os0
  have k1 := h1
  have lt1 : ∀ x ∈ p1, x.block < W.heap.size := by obtain ⟨m, hm⟩ := k1; exact DataW.trod_lt m _ _ _ hm
  have u1 := hval 1 59 v1 rfl rfl
  have o1 := okT_arg 7 1 hsz rfl rfl k1 (by kernel_rfl)
  obtain ⟨cs1, rfl, os1⟩ := open_dst (show isStr Try.prog 59 = true by kernel_rfl) u1 o1
  obtain ⟨zcc, B, zou, e, rfl, hzc, hzk, -, -, -, hRz, -⟩ := okState os1
  have k2 := h2
  have lt2 : ∀ x ∈ p2, x.block < W.heap.size := by obtain ⟨m, hm⟩ := k2; exact DataW.trod_lt m _ _ _ hm
  have u2 := hval 2 3 v2 rfl rfl
  obtain ⟨i, rfl, -, -, hwi⟩ := open_int (show Try.prog.underlying 3 = some (.int .i64) by kernel_rfl) u2 h2
  have hw := law_lawSRoots W acc A ou cq zcc B zou e i hac hlk hzc hzk hae hge hon hRo hRz
  clear hA0 hval0 hsz0
  refine (hw).mono fun e W' ⟨he, hH⟩ => ?_
  subst he
  exact ⟨_, rfl, _, _, _, [], _, [], hW', trodAll_mk1 (shut_bool (show Try.prog.underlying 4 = some .bool by kernel_rfl) _), (trodAll_cons_mk (Below.trod laidOut (by kernel_rfl) (of_decide_eq_true (by kernel_rfl)) k0 hH.below lt0) (trodAll_cons_mk (Below.trod laidOut (by kernel_rfl) (of_decide_eq_true (by kernel_rfl)) k1 hH.below lt1) (trodAll_cons_mk (Below.trod laidOut (by kernel_rfl) (of_decide_eq_true (by kernel_rfl)) k2 hH.below lt2) trodAll_mk0))), rfl, hH.below.frame _, fun h => by cases h⟩

theorem over : Rows.stateRootsRow.holds Try.pinned (OpenSpec.ofChange Rows.stateRootsSpec) :=
  OpenClaim.holds_of_wide 10 Try.f10 rfl rfl rfl rfl rfl rfl rfl ⟨rfl, rfl, rfl, rfl, rfl⟩ rfl rfl rfl rfl rfl (by kernel_rfl) Try.func10 (by kernel_rfl)
    (of_decide_eq_true (by kernel_rfl)) (by unfold Func.isWrapper; first | (rw [if_pos (by decide +kernel)]; kernel_rfl) | (rw [if_neg (by decide +kernel)]; exact ⟨rfl, rfl⟩))
    (fun os started H enc _ => lifted os started H enc)

/-- The statement. -/
theorem proved : Rows.StateRootsSaid := over
#print axioms proved
end Go.Proofs.Ytogpbbgcdeiplaa.stateRootsDone
