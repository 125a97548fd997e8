/-
  The law LedgerKeeps holds at every input: payments leave the total, and what is paid back leaves the purses. Its conditions: none beside the statement's own.
-/
import Derived.Test.YtfeecdcanjkohaaRows
import Derived.Test.YtfeecdcanjkohaaLed
import Derived.Test.YtfeecdcanjkohaaOpen
import Derived.WalkKit
import Derived.ProofKit
import Derived.OpenShut
import Derived.ShutString
import Derived.ChangeOld
import Derived.Below
import Derived.SizedLaws
namespace Go.Proofs.Ytfeecdcanjkohaa.ledgerKeepsDone
open Go.ChangeShapes Go.WideShapes Go.ChangeAt Go.RowKit Go.Px Go.Proofs.Ytfeecdcanjkohaa
open Go.ChangeMaps (open_string shut_string)
set_option linter.unusedVariables false

theorem okMv {cs : List Value} (h : OkC [.int .i64, .int .i64, .int .u64] cs) : ∃ f t a : Int, cs = [.int .i64 f, .int .i64 t, .int .u64 a] ∧ 0 ≤ a ∧ a < 18446744073709551616 := by
  obtain ⟨c1, r1, rfl, ⟨x, rfl, -⟩, h1⟩ := okC_cons h
  obtain ⟨c2, r2, rfl, ⟨y, rfl, -⟩, h2⟩ := okC_cons h1
  obtain ⟨c3, r3, rfl, ⟨z, rfl, hz⟩, h3⟩ := okC_cons h2
  cases h3
  exact ⟨x, y, z, rfl, wfU64 hz⟩

theorem own : ownKnob Try.prog.godebug = none := by kernel_rfl
theorem laidOut : laidOutB Try.prog = true := by kernel_rfl

set_option maxRecDepth 100000 in
theorem lifted (os : Os) (started : os.Started) (H : Type) (enc : TypeId × Value → H) :
    ReturnsInHanded {} Try.checked os 4 .any (Rows.ledgerKeepsSpec.pre6 enc Try.prog Try.f4 Rows.ledgerKeepsRow.domain false) (Rows.ledgerKeepsSpec.post enc Try.prog Try.f4 false true false false) := by
  refine returnsInHanded_of_change_sized (C := Try.checked) own started (by kernel_rfl) Try.func4
    (ChangeSpec.witness6 (enc := enc) (C := Try.checked) false ⟨#[], #[.agg (Array.replicate 16 (.int .u64 0)), .slice none 0 0, .agg #[.int .i64 0, .int .i64 0, .int .u64 0]], []⟩ 8 (by kernel_rfl) (by kernel_rfl) (by kernel_rfl) (by kernel_rfl)) ?_
  intro W base args ds gs before hval0 hW hcnd hsz0 _
  have hval : ∀ (j : Nat) t v, Try.f4.params[j]? = some t → args[j]? = some v → Value.okWide Try.prog W .any base t v := hval0
  have hW' := hW
  obtain ⟨p, q, hA0, hV, rfl, hfz, hnd⟩ := hW
  have hA : DataW.TrodAll enc Try.prog W 0 (fun _ => true) true Try.f4.params.toList args.toList ds p := hA0
  have hsz : (DataW.weightsEach Try.prog (Try.f4.params.toList ++ Rows.ledgerKeepsSpec.plain.varTypes Try.prog) (ds ++ gs)).all (· ≤ reachBytes) = true := hsz0
  have hpa : Try.f4.params = #[24, 25, 39] := by kernel_rfl
  rw [hpa] at hA hval hsz
  obtain ⟨v0, vs0, d0, ds0, p0, q0, hargs, rfl, rfl, h0, r0⟩ := trodAll_cons hA
  obtain ⟨v1, vs1, d1, ds1, p1, q1, rfl, rfl, rfl, h1, r1⟩ := trodAll_cons r0
  obtain ⟨v2, vs2, d2, ds2, p2, q2, rfl, rfl, rfl, h2, r2⟩ := trodAll_cons r1
  obtain ⟨rfl, rfl, rfl⟩ := trodAll_nil r2
  obtain rfl : args = #[v0, v1, v2] := by cases args; simp_all
  obtain ⟨rfl, rfl⟩ := trodVars_none hV
  have k0 := h0
  have lt0 : ∀ x ∈ p0, x.block < W.heap.size := by obtain ⟨m, hm⟩ := k0; exact DataW.trod_lt m _ _ _ hm
  have u0 := hval 0 24 v0 rfl rfl
  obtain ⟨cs0, rfl, hc0⟩ := open_arr (show Try.prog.underlying 24 = some (.array 16 22) by kernel_rfl) (show flatK Try.prog 20 24 = some (List.replicate 16 (.int .u64)) by kernel_rfl) u0 h0
  obtain ⟨pp, rfl, hpl, hpw⟩ := okC_iv hc0
  have hpb : B64 pp := B64_of fun x hx => wfU64 (hpw x hx)
  have k1 := h1
  have lt1 : ∀ x ∈ p1, x.block < W.heap.size := by obtain ⟨m, hm⟩ := k1; exact DataW.trod_lt m _ _ _ hm
  have u1 := hval 1 25 v1 rfl rfl
  obtain ⟨A1, css1, sps1, rfl, hr1, hr1', hR1, hd1⟩ := open_slr (show Try.prog.underlying 25 = some (.slice 39) by kernel_rfl) (show flatK Try.prog 20 39 = some [.int .i64, .int .i64, .int .u64] by kernel_rfl) (of_decide_eq_true (by kernel_rfl)) u1 h1
  obtain ⟨l, hf1, hn1, hk1⟩ := rows_as (form := fun m : Mv => [.int .i64 m.1, .int .i64 m.2.1, .int .u64 m.2.2]) (ok := fun m : Mv => 0 ≤ m.2.2 ∧ m.2.2 < 18446744073709551616) (fun cs h => by obtain ⟨f, t, a, rfl, hw⟩ := okMv h; exact ⟨(f, t, a), rfl, hw⟩) hr1
  rw [List.flatten_append, hf1] at hR1
  have hb1 : l.length ≤ 140737488351232 := by
    rw [hn1]
    rcases hd1 with ⟨-, hz, -, -⟩ | ⟨es, sp, rfl, e1, e2⟩
    · simp [hz]
    · have := sized_slice (e := 39) hsz (j := 1) (t := 25) rfl rfl (show Try.prog.underlying 25 = some (.slice 39) by kernel_rfl)
      rw [show Try.prog.bytesOf 39 = 24 by kernel_rfl] at this
      simp only [reachBytes] at this
      omega
  have k2 := h2
  have lt2 : ∀ x ∈ p2, x.block < W.heap.size := by obtain ⟨m, hm⟩ := k2; exact DataW.trod_lt m _ _ _ hm
  have u2 := hval 2 39 v2 rfl rfl
  obtain ⟨cs2, rfl, hc2⟩ := open_str (by kernel_rfl) (show flatK Try.prog 20 39 = some [.int .i64, .int .i64, .int .u64] by kernel_rfl) u2 h2
  obtain ⟨mf, mt, ma, rfl, hma⟩ := okMv hc2
  have hw := proctorlaw19_LedgerKeeps W pp l A1 (css1.length + sps1.length) mf mt ma hpl hpb hR1.left hb1 hma (fun m hm => (hk1 m hm).1)
  rw [hn1] at hw
  clear hA0 hval0 hsz0
  refine (hw).mono fun e W' ⟨he, hH⟩ => ?_
  subst he
  exact ⟨_, rfl, _, _, _, [], _, [], hW', trodAll_mk1 (shut_bool (show Try.prog.underlying 4 = some .bool by kernel_rfl) _), (trodAll_cons_mk (Below.trod laidOut (by kernel_rfl) (of_decide_eq_true (by kernel_rfl)) k0 hH.below lt0) (trodAll_cons_mk (Below.trod laidOut (by kernel_rfl) (of_decide_eq_true (by kernel_rfl)) k1 hH.below lt1) (trodAll_cons_mk (Below.trod laidOut (by kernel_rfl) (of_decide_eq_true (by kernel_rfl)) k2 hH.below lt2) trodAll_mk0))), rfl, hH.below.frame _, fun h => by cases h⟩

theorem over : Rows.ledgerKeepsRow.holds Try.pinned (OpenSpec.ofChange Rows.ledgerKeepsSpec) :=
  OpenClaim.holds_of_wide 4 Try.f4 rfl rfl rfl rfl rfl rfl rfl ⟨rfl, rfl, rfl, rfl, rfl⟩ rfl rfl rfl rfl rfl (by kernel_rfl) Try.func4 (by kernel_rfl)
    (of_decide_eq_true (by kernel_rfl)) (by unfold Func.isWrapper; first | (rw [if_pos (by decide +kernel)]; kernel_rfl) | (rw [if_neg (by decide +kernel)]; exact ⟨rfl, rfl⟩))
    (fun os started H enc _ => lifted os started H enc)

/-- The statement. -/
theorem proved : Rows.LedgerKeepsSaid := over
#print axioms proved
end Go.Proofs.Ytfeecdcanjkohaa.ledgerKeepsDone
