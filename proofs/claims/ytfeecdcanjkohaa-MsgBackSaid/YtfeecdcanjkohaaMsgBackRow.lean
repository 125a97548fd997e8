/-
  The law MsgBack holds at every input: a message is read as it was written, and written as it was read. Its conditions: none beside the statement's own.
-/
import Derived.Test.YtfeecdcanjkohaaRows
import Derived.Test.YtfeecdcanjkohaaSh4
import Derived.WalkKit
import Derived.ProofKit
import Derived.OpenShut
import Derived.ShutString
import Derived.ChangeOld
import Derived.Below
import Derived.SizedLaws
namespace Go.Proofs.Ytfeecdcanjkohaa.msgBackDone
open Go.ChangeShapes Go.WideShapes Go.ChangeAt Go.RowKit Go.Px Go.Proofs.Ytfeecdcanjkohaa
open Go.ChangeMaps (open_string shut_string)
set_option linter.all false

theorem okMsg {cs : List Value} (h : OkC ([.int .u8] ++ (List.replicate 4 (.int .u64) ++ (List.replicate 32 (.int .u8) ++ List.replicate 32 (.int .u8)))) cs) :
    ∃ (k f t a n : Int) (x y : List Int), cs = [.int .u8 k, .int .u64 f, .int .u64 t, .int .u64 a, .int .u64 n] ++ (iv .u8 x ++ iv .u8 y) ∧ x.length = 32 ∧ y.length = 32 ∧ (0 ≤ k ∧ k < 256) ∧ (0 ≤ f ∧ f < 18446744073709551616) ∧ (0 ≤ t ∧ t < 18446744073709551616) ∧
      (0 ≤ a ∧ a < 18446744073709551616) ∧ (0 ≤ n ∧ n < 18446744073709551616) ∧ (∀ j, 0 ≤ x.getD j 0 ∧ x.getD j 0 < 256) ∧ (∀ j, 0 ≤ y.getD j 0 ∧ y.getD j 0 < 256) := by
  obtain ⟨c1, r1, rfl, ⟨k, rfl, hk⟩, h1⟩ := okC_cons h
  obtain ⟨c2, r2, rfl, ⟨f, rfl, hf⟩, h2⟩ := okC_cons h1
  obtain ⟨c3, r3, rfl, ⟨t, rfl, ht⟩, h3⟩ := okC_cons h2
  obtain ⟨c4, r4, rfl, ⟨a, rfl, ha⟩, h4⟩ := okC_cons h3
  obtain ⟨c5, r5, rfl, ⟨n, rfl, hn⟩, h5⟩ := okC_cons h4
  obtain ⟨c6, c7, rfl, h6, h7⟩ := okC_split (ka := List.replicate 32 (CK.int .u8)) h5
  obtain ⟨x, rfl, hx, hxr⟩ := okC_iv h6
  obtain ⟨y, rfl, hy, hyr⟩ := okC_iv h7
  exact ⟨k, f, t, a, n, x, y, rfl, hx, hy, wfU8 hk, wfU64 hf, wfU64 ht, wfU64 ha, wfU64 hn, get_of_mem (p := fun x => 0 ≤ x ∧ x < 256) (by omega) (fun z hz => wfU8 (hxr z hz)), get_of_mem (p := fun x => 0 ≤ x ∧ x < 256) (by omega) (fun z hz => wfU8 (hyr z hz))⟩

theorem okByte {cs : List Value} (h : OkC [.int .u8] cs) : ∃ n : Int, cs = [.int .u8 n] ∧ 0 ≤ n ∧ n < 256 := by
  obtain ⟨c1, r1, rfl, ⟨k, rfl, hk⟩, h1⟩ := okC_cons h
  cases h1
  exact ⟨k, rfl, wfU8 hk⟩
theorem flat_bytes (l : List Int) : (l.flatMap fun n : Int => [Value.int .u8 n]) = iv .u8 l := by
  induction l with
  | nil => rfl
  | cons x l ih => rw [List.flatMap_cons, ih]; rfl

theorem own : ownKnob Try.prog.godebug = none := by kernel_rfl
theorem laidOut : laidOutB Try.prog = true := by kernel_rfl

set_option maxRecDepth 100000 in
theorem lifted (os : Os) (started : os.Started) (H : Type) (enc : TypeId × Value → H) :
    ReturnsInHanded {} Try.checked os 7 .any (Rows.msgBackSpec.pre6 enc Try.prog Try.f7 Rows.msgBackRow.domain false) (Rows.msgBackSpec.post enc Try.prog Try.f7 false true false false) := by
  refine returnsInHanded_of_change_sized (C := Try.checked) own started (by kernel_rfl) Try.func7
    (ChangeSpec.witness6 (enc := enc) (C := Try.checked) false ⟨#[], #[.agg ((([.int .u8 0] : List Value) ++ (List.replicate 4 (Value.int .u64 0) ++ List.replicate 64 (Value.int .u8 0))).toArray), .slice none 0 0], []⟩ 8 (by kernel_rfl) (by kernel_rfl) (by kernel_rfl) (by kernel_rfl)) ?_
  intro W base args ds gs before hval0 hW hcnd hsz0 _
  have hval : ∀ (j : Nat) t v, Try.f7.params[j]? = some t → args[j]? = some v → Value.okWide Try.prog W .any base t v := hval0
  have hW' := hW
  obtain ⟨p, q, hA0, hV, rfl, hfz, hnd⟩ := hW
  have hA : DataW.TrodAll enc Try.prog W 0 (fun _ => true) true Try.f7.params.toList args.toList ds p := hA0
  have hsz : (DataW.weightsEach Try.prog (Try.f7.params.toList ++ Rows.msgBackSpec.plain.varTypes Try.prog) (ds ++ gs)).all (· ≤ reachBytes) = true := hsz0
  have hpa : Try.f7.params = #[49, 50] := by kernel_rfl
  rw [hpa] at hA hval hsz
  obtain ⟨v0, vs0, d0, ds0, p0, q0, hargs, rfl, rfl, h0, r0⟩ := trodAll_cons hA
  obtain ⟨v1, vs1, d1, ds1, p1, q1, rfl, rfl, rfl, h1, r1⟩ := trodAll_cons r0
  obtain ⟨rfl, rfl, rfl⟩ := trodAll_nil r1
  obtain rfl : args = #[v0, v1] := by cases args; simp_all
  obtain ⟨rfl, rfl⟩ := trodVars_none hV
  have k0 := h0
  have lt0 : ∀ x ∈ p0, x.block < W.heap.size := by obtain ⟨m, hm⟩ := k0; exact DataW.trod_lt m _ _ _ hm
  have u0 := hval 0 49 v0 rfl rfl
  obtain ⟨cs0, rfl, hc0⟩ := open_str (by kernel_rfl) (show flatK Try.prog 20 49 = some ([CK.int .u8] ++ (List.replicate 4 (CK.int .u64) ++ (List.replicate 32 (CK.int .u8) ++ List.replicate 32 (CK.int .u8)))) by kernel_rfl) u0 h0
  obtain ⟨mk, mf, mt, ma, mn, mx, my, rfl, hmx, hmy, hmk, hmf, hmt, hma, hmn, hmxb, hmyb⟩ := okMsg hc0
  have k1 := h1
  have lt1 : ∀ x ∈ p1, x.block < W.heap.size := by obtain ⟨m, hm⟩ := k1; exact DataW.trod_lt m _ _ _ hm
  have u1 := hval 1 50 v1 rfl rfl
  obtain ⟨A1, css1, sps1, rfl, hr1, hr1', hR1, hd1⟩ := open_slr (show Try.prog.underlying 50 = some (.slice 5) by kernel_rfl) (show flatK Try.prog 20 5 = some [.int .u8] by kernel_rfl) (of_decide_eq_true (by kernel_rfl)) u1 h1
  obtain ⟨bb, hf1, hn1, hk1⟩ := rows_as (form := fun n : Int => [.int .u8 n]) (ok := fun n : Int => 0 ≤ n ∧ n < 256) (fun cs h => okByte h) hr1
  rw [List.flatten_append, hf1, flat_bytes] at hR1
  have hb1 : bb.length ≤ 140737488351232 := by
    rw [hn1]
    rcases hd1 with ⟨-, hz, -, -⟩ | ⟨es, sp, rfl, e1, e2⟩
    · simp [hz]
    · have := sized_slice (e := 5) hsz (j := 1) (t := 50) rfl rfl (show Try.prog.underlying 50 = some (.slice 5) by kernel_rfl)
      rw [show Try.prog.bytesOf 5 = 1 by kernel_rfl] at this
      simp only [reachBytes] at this
      omega
  have hg1 := get_of_mem (p := fun x => 0 ≤ x ∧ x < 256) (l := bb) (by omega) hk1
  have hw := proctorlaw07_MsgBack W mk mf mt ma mn mx my bb A1 (css1.length + sps1.length) hmx hmy hmk hmf hmt hma hmn hmxb hmyb hR1.left hg1 hb1
  rw [hn1] at hw
  clear hA0 hval0 hsz0
  refine (hw).mono fun e W' ⟨he, hH⟩ => ?_
  subst he
  exact ⟨_, rfl, _, _, _, [], _, [], hW', trodAll_mk1 (shut_bool (show Try.prog.underlying 4 = some .bool by kernel_rfl) _), (trodAll_cons_mk (Below.trod laidOut (by kernel_rfl) (of_decide_eq_true (by kernel_rfl)) k0 hH.below lt0) (trodAll_cons_mk (Below.trod laidOut (by kernel_rfl) (of_decide_eq_true (by kernel_rfl)) k1 hH.below lt1) trodAll_mk0)), rfl, hH.below.frame _, fun h => by cases h⟩

theorem over : Rows.msgBackRow.holds Try.pinned (OpenSpec.ofChange Rows.msgBackSpec) :=
  OpenClaim.holds_of_wide 7 Try.f7 rfl rfl rfl rfl rfl rfl rfl ⟨rfl, rfl, rfl, rfl, rfl⟩ rfl rfl rfl rfl rfl (by kernel_rfl) Try.func7 (by kernel_rfl)
    (of_decide_eq_true (by kernel_rfl)) (by unfold Func.isWrapper; first | (rw [if_pos (by decide +kernel)]; kernel_rfl) | (rw [if_neg (by decide +kernel)]; exact ⟨rfl, rfl⟩))
    (fun os started H enc _ => lifted os started H enc)

/-- The statement. -/
theorem proved : Rows.MsgBackSaid := over
#print axioms proved
end Go.Proofs.Ytfeecdcanjkohaa.msgBackDone
