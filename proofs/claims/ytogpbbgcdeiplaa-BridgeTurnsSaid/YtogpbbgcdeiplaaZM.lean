/-
  Maps from arrays of bytes to whole numbers: what is looked up, what is put in. No condition.
-/
import Derived.Test.YtogpbbgcdeiplaaOps3
import Derived.MapKept
import Derived.WideKeyRuns
set_option linter.all false
namespace Go.Px
open Go.RowKit

/-- The entries of a map, in the order in which they came. -/
def mEs : Nat → List (List Int × Int) → List MapEntry
  | _, [] => []
  | i, (k, v) :: r => { key := .agg (iv .u8 k).toArray, val := .int .i64 v, born := i } :: mEs (i + 1) r
def mObj (l : List (List Int × Int)) : Obj := .map (mEs 0 l).toArray l.length
/-- What a map has at a key. -/
def mLk (k : List Int) : List (List Int × Int) → Option Int
  | [] => none
  | (a, v) :: r => if k = a then some v else mLk k r

theorem mEs_append : ∀ (l r : List (List Int × Int)) (i : Nat), mEs i (l ++ r) = mEs i l ++ mEs (i + l.length) r
  | [], r, i => rfl
  | (k, v) :: l, r, i => by
    simp only [List.cons_append, mEs, mEs_append l r (i + 1), List.length_cons]
    rw [show i + 1 + l.length = i + (l.length + 1) by omega]
section
variable {P : Program}
theorem run_checkArr {K n : Nat} (h : arrB P K n = true) {ks : List Int} (hk : ks.length = n) (em : Bool) (w : World) : (Instr.checkKey em 10000 K (.agg (iv .u8 ks).toArray)).run P w = .ok () w := by
  unfold arrB at h
  split at h
  · rename_i m e hu
    simp only [Bool.and_eq_true] at h
    obtain ⟨⟨⟨⟨h1, h2⟩, h3⟩, h4⟩, h5⟩ := h
    have h1 := Nat.eq_of_beq_eq_true h1
    have h4 := Nat.eq_of_beq_eq_true h4
    subst h1
    split at h2
    · rename_i k' he
      obtain ⟨i, hi⟩ := Option.isSome_iff_exists.1 h3
      split at h5
      · rename_i b hb
        have hb : aggB P e = some false := by cases b <;> simp_all
        rw [show 10000 = 9999 + 1 from rfl, Instr.checkKey]
        simp only [Sem.run_bind, run_underlying hu, Result.andThen_ok]
        simp only [Std.Legacy.Range.forIn_eq_forIn_range', Std.Legacy.Range.size, Nat.sub_zero, Nat.add_one_sub_one, Nat.div_one]
        have key : ∀ c j, j + c = m → (forIn (m := Sem) (List.range' j c) PUnit.unit fun i _ => do
            let a ← part e (iv .u8 ks).toArray (i * (← sizeOf e))
            Instr.checkKey em 9999 e a
            pure (ForInStep.yield PUnit.unit)).run P w = .ok PUnit.unit w := by
          intro c
          induction c with
          | zero => intro j _; simp
          | succ c ih =>
            intro j hj
            have hg : (iv .u8 ks)[j * 1]? = some (.int .u8 (ks.getD j 0)) := by rw [Nat.mul_one]; exact iv_get (by omega)
            have hc : (Instr.checkKey em 9999 e (.int .u8 (ks.getD j 0))).run P w = .ok () w := by
              rw [show 9999 = 9998 + 1 from rfl, Instr.checkKey]
              simp [run_underlying he]
            have hp := run_part_iv (P := P) hb hg w
            rw [List.range'_succ, List.forIn_cons]
            simp only [Sem.run_bind, run_sizeOf w hi, h4, Result.andThen_ok, hp, hc, Sem.run_pure]
            exact ih (j + 1) (by omega)
        have := key m 0 (by omega)
        rw [this]; rfl
      · simp at h5
    · simp at h2
  · simp at h
theorem run_findArr {K n : Nat} (h : arrB P K n = true) {ks : List Int} (hk : ks.length = n) (w : World) : ∀ (l : List (List Int × Int)) (b i : Nat), (∀ p ∈ l, p.1.length = n) →
    (mLk ks l = none ∧ (Instr.findAsking K (.agg (iv .u8 ks).toArray) (mEs b l) i).run P w = .ok none w) ∨ ∃ j v, mLk ks l = some v ∧ (Instr.findAsking K (.agg (iv .u8 ks).toArray) (mEs b l) i).run P w = .ok (some (j, .int .i64 v)) w
  | [], b, i, _ => .inl ⟨rfl, by simp [mEs, Instr.findAsking]⟩
  | (a, v) :: l, b, i, hl => by
    have he := EqV.arrC h (k := .u8) ks a hk (hl (a, v) (by simp)) 9998 w
    have he : (Op.equal K (.agg (iv .u8 ks).toArray) (.agg (iv .u8 a).toArray)).run P w = .ok (decide (ks = a)) w := he
    by_cases e : ks = a
    · right
      subst e
      refine ⟨i, v, by simp [mLk], ?_⟩
      simp only [mEs, Instr.findAsking, Sem.run_bind, he, Result.andThen_ok, decide_true, if_true, Sem.run_pure]
    · have e' : decide (ks = a) = false := by simpa using e
      rcases run_findArr h hk w l (b + 1) (i + 1) (fun p hp => hl p (by simp [hp])) with ⟨h1, h2⟩ | ⟨j, v', h1, h2⟩
      · left
        refine ⟨by simp [mLk, e, h1], ?_⟩
        simp only [mEs, Instr.findAsking, Sem.run_bind, he, Result.andThen_ok, e', Bool.false_eq_true, if_false, h2]
      · right
        refine ⟨j, v', by simp [mLk, e, h1], ?_⟩
        simp only [mEs, Instr.findAsking, Sem.run_bind, he, Result.andThen_ok, e', Bool.false_eq_true, if_false, h2]
theorem run_findK {K n : Nat} (h : arrB P K n = true) (x : Value) (es : List MapEntry) (w : World) : (Instr.findKey K x es).run P w = (Instr.findAsking K x es).run P w := by
  rw [run_findKey_eq]
  unfold arrB at h
  split at h
  · rename_i hu; simp [hu]
  · simp at h

theorem run_mapLook {t K V n b : Nat} (ht : P.underlying t = some (.map K V)) (h : arrB P K n = true) (hz : ∀ w, (zeroValue V).run P w = .ok (.int .i64 0) w) {l : List (List Int × Int)} (hl : ∀ p ∈ l, p.1.length = n) {ks : List Int} (hk : ks.length = n) {w : World} (hb : w.heap[b]? = some (mObj l)) :
    (Instr.lookup t (.map (some b)) (.agg (iv .u8 ks).toArray) true).run P w = .ok (.tuple #[.int .i64 ((mLk ks l).getD 0), .bool (mLk ks l).isSome]) w := by
  have hc := run_checkArr (P := P) h hk (mEs 0 l).toArray.isEmpty w
  rcases run_findArr h hk w l 0 0 hl with ⟨h1, h2⟩ | ⟨j, v, h1, h2⟩
  · simp only [Instr.lookup, Sem.run_bind, run_underlying ht, Result.andThen_ok, MapKept.run_getObj_map hb, Sem.run_pure, hc, run_findK h, h2, hz, h1]
    rfl
  · simp only [Instr.lookup, Sem.run_bind, run_underlying ht, Result.andThen_ok, MapKept.run_getObj_map hb, Sem.run_pure, hc, run_findK h, h2, h1]
    rfl
theorem run_mapNew {t K V n b : Nat} (ht : P.underlying t = some (.map K V)) (h : arrB P K n = true) {l : List (List Int × Int)} (hl : ∀ p ∈ l, p.1.length = n) {ks : List Int} (hk : ks.length = n) (hn : mLk ks l = none) (v : Int) {w : World} (hb : w.heap[b]? = some (mObj l)) :
    (Instr.mapUpdate t (.map (some b)) (.agg (iv .u8 ks).toArray) (.int .i64 v)).run P w = .ok () { w with heap := w.heap.setIfInBounds b (mObj (l ++ [(ks, v)])) } := by
  have hc := run_checkArr (P := P) h hk false w
  rcases run_findArr h hk w l 0 0 hl with ⟨h1, h2⟩ | ⟨j, v', h1, h2⟩
  · simp only [Instr.mapUpdate, Sem.run_bind, run_underlying ht, Result.andThen_ok, MapKept.run_getObj_map hb, hc, run_findK h, h2, MapKept.run_setObj_map _ hb, mObj, mEs_append, mEs]
    simp
  · rw [hn] at h1; cases h1
theorem run_mapMake {t : Nat} (w : World) : (Instr.makeMap t none).run P w = .ok (.map (some w.heap.size)) { w with heap := w.heap.push (mObj []) } := rfl
end
end Go.Px
