/-
  Still more rules of this seat's walks: nil slices, a slice that is cut short, zero elements appended. No condition beside those that stand in each theorem.
-/
import Derived.Test.YtogpbbgcdeiplaaOps
set_option linter.all false
namespace Go.Px
open Go.RowKit

section
variable {P : Program} {N : FN} {ops : Array Oper} {Q : Exit → Act → World → Prop} {fl : FL} {T : Tab} {w : World} {i : Nat} {rest : OT}

theorem run_eq_nil {t e : TypeId} (hu : P.underlying t = some (.slice e)) (a : Option Addr) (n c : Nat) (w : World) : (Op.equal t (.slice a n c) (.slice none 0 0)).run P w = .ok a.isNone w := by
  have key : ∀ d, (Op.equalIn (d + 1) t (.slice a n c) (.slice none 0 0)).run P w = .ok a.isNone w := by
    intro d
    cases a <;> simp [Op.equalIn, run_underlying hu]
  exact key 9999

/-- A slice of the call's own, cut short: what was behind is room. -/
theorem Hp.short {M : Nat → Prop} {w0 w : World} {m : Mem} (H : Hp M w0 w m) (k : Nat) {A : Option Addr} {n c : Nat} {xs : List Value} {e : TypeId} {s : Nat} (n' : Nat) (hm : m[k]? = some (.sl A n c xs e s)) (hn : n' ≤ n) :
    Hp M w0 w (m.set k (.sl A n' c (xs.take (n' * s)) e s)) :=
  H.conv hm _ fun G hG => by
    refine ⟨⟨?_, ?_⟩, hG.2⟩
    · have := Nat.mul_le_mul_right s hn
      rw [List.length_take, hG.1.1]; omega
    · rcases hG.1.2 with ⟨h, h'⟩ | ⟨g, cap, cur, h3, h4, h5, h6, h7, h8, h9⟩
      · simp only [Value.slice.injEq] at h
        have : n' = 0 := by omega
        subst this
        exact .inl ⟨by simp [h], rfl⟩
      · simp only [Value.slice.injEq] at h3
        refine .inr ⟨g, cap, cur, by simp [h3], h4, h5, by omega, h7, h8, ?_⟩
        rw [← h9, List.take_take, Nat.min_eq_left (Nat.mul_le_mul_right s hn)]

/-- What stands of pieces that are only read. -/
theorem Hp.prTo {M : Nat → Prop} {w0 w : World} {m : Mem} (H : Hp M w0 w m) (k : Nat) {φ ψ : World → Prop} (hm : m[k]? = some (.pr φ)) (h : ∀ w, φ w → ψ w) : Hp M w0 w (m.set k (.pr ψ)) :=
  H.conv hm _ fun G hG w' hw => h w' (hG w' hw)

/-- Zero elements appended to a slice that is nil. -/
theorem run_append_zeros_nil (w : World) (t tx ty e : TypeId) (x : TypeInfo) (z : Value) (k k' : IntKind) (ht : P.underlying t = some (.slice e)) (hx : P.underlying tx = some (.int k')) (hi : P.info? e = some x) (hz : x.zero = some z)
    (n : Nat) (h0 : 0 < n) (hs0 : 0 < x.size) (h63 : (n : Int) ≤ 9223372036854775807) (h48 : n * x.bytes ≤ 281474976710656) :
    (Builtin.append_ #[t, tx] ty #[.slice none 0 0, .int k n]).run P w =
      .ok (.slice (some ⟨w.heap.size, 0, none⟩) n (grownCap w n 0 e)) (w.drew.alloc (.cells (Builtin.zeroCells z.cells n ++ Builtin.zeroCells z.cells (grownCap w n 0 e - n)) e)) := by
  have hn : n ≠ 0 := by omega
  have hw : IntKind.i64.wrap (n : Int) = n := wi64 (by omega) (by omega)
  have h63' : ¬ (9223372036854775807 < (n : Int)) := by omega
  have h48' : ¬ (281474976710656 < Builtin.nextslicecap n 0 * x.bytes) := by rw [nextslicecap_zero h0]; omega
  have h48'' : ¬ (281474976710656 < (n : Int) * (x.bytes : Int)) := by
    have : (n : Int) * (x.bytes : Int) = ((n * x.bytes : Nat) : Int) := by simp
    omega
  simp [Builtin.append_, run_underlying ht, run_underlying hx, sizeOf, typeInfo, zeroValue, hi, hz, hw, h48'', hn, h63', h48', Question.forced, run_firstCells_none, newRow, grownCap, asInt, asIntOf]
  rw [if_neg (by omega), if_neg (by have := Nat.mul_pos h0 hs0; omega)]

theorem zeroCells_zrep {z : Value} {s : Nat} {zs : List Value} (hz : zs = z.cells.toList) (h5 : z.cells.size = s) (h6 : 0 < s) (n : Nat) : (Builtin.zeroCells z.cells n).toList = zrep zs n := by
  have hzl : zs.length = s := by rw [hz]; simpa using h5
  apply List.ext_getElem?
  intro j
  have hl : (Builtin.zeroCells z.cells n).toList.length = n * s := by simp [Builtin.zeroCells, h5]
  by_cases hj : j < n * s
  · rw [zrep_get zs (by omega) n j (by rw [hzl]; exact hj)]
    simp only [Builtin.zeroCells, hz, Array.getElem?_toList, h5, Array.length_toList]
    have hlt : j % s < z.cells.size := by rw [h5]; exact Nat.mod_lt _ h6
    simp [hj, getElem!_pos, hlt]
  · rw [List.getElem?_eq_none (by omega), List.getElem?_eq_none (by rw [zrep_length, hzl]; omega)]

/-- append(nil, make([]T, n)...). -/
def azT (P : Program) (T : Tab) (o : Oper) : Option (Option Nat × Option (Nat × Nat × Nat) × Int) :=
  match o.op with
  | .call { callee := .builtin .append, args := ⟨[x, y]⟩, argTypes := ⟨[t, t']⟩ } =>
    match P.underlying t, P.underlying t', evT T x, evT T y with
      | some (.slice e), some (.int _), some (.slice none 0 0), some (.int _ n) => some (o.dst, tyT P e, n)
      | _, _, _, _ => none
  | _ => none

theorem tyT_snd {e' e s b : Nat} (hty : tyT P e' = some (s, b, e)) : e' = e := by
  unfold tyT at hty
  split at hty
  · split at hty
    · split at hty
      · simp only [Option.some.injEq, Prod.mk.injEq] at hty; exact hty.2.2
      · cases hty
    · cases hty
  · cases hty

theorem wc_az {M : Nat → Prop} {w0 : World} {m : Mem} (H : Hp M w0 w m) (d : Option Nat) (n e s by' : Nat) (zs : List Value)
    (hop' : ((opT N ops T i).bind (azT P T), fl i, zOf P e) = (some (d, some (s, by', e), (n : Int)), 3, zs)) (h0 : 0 < n) (hb : n * by' ≤ 140737488355328)
    (h : ∀ A c w', Hp M w0 w' (.sl A n c (zrep zs n) e s :: m) → WC P N ops Q fl rest (putT T d (.slice A n c)) w') : WC P N ops Q fl (.s i rest) T w := by
  simp only [Prod.mk.injEq] at hop'
  obtain ⟨hop, hf, hz⟩ := hop'
  obtain ⟨o, hq, h2⟩ := Option.bind_eq_some_iff.1 hop
  unfold azT at h2
  split at h2
  · rename_i x y t t' hox
    split at h2
    · rename_i e' k' k nn hu hu' hx hy
      simp only [Option.some.injEq, Prod.mk.injEq] at h2
      obtain ⟨rfl, hty, rfl⟩ := h2
      have he := tyT_snd hty
      subst he
      obtain ⟨xx, z, h1, h2, rfl, rfl, h5, h6, h7⟩ := tyT_spec hty
      have hz' : zs = z.cells.toList := by rw [← hz]; unfold zOf; simp [h1, h2]
      have hnn : n ≤ 140737488355328 := Nat.le_trans (Nat.le_mul_of_pos_right _ h7) hb
      refine wc_heap hq (by rw [hf]; rfl) fun a ha => ?_
      have hrun := run_append_zeros_nil (P := P) w t t' o.type e' xx z k k' hu hu' h1 h2 n h0 h6 (by omega) (by omega)
      have hrun' : (execOp a.eval o).run P w = .ok (.value (.slice (some ⟨w.heap.size, 0, none⟩) n (grownCap w n 0 e'))) (w.drew.alloc (.cells (Builtin.zeroCells z.cells n ++ Builtin.zeroCells z.cells (grownCap w n 0 e' - n)) e')) := by
        unfold execOp
        simp [hox, resolve, invoke, builtin, evT_spec ha hx, evT_spec ha hy, hrun]
      unfold operR
      rw [hrun']
      have hge := grownCap_ge w n 0 e'
      have hcm : grownCap w n 0 e' ≤ maxLen := grownCap_le_maxLen w n 0 e' (by unfold maxLen; omega)
      have hnew : (w.drew.alloc (.cells (Builtin.zeroCells z.cells n ++ Builtin.zeroCells z.cells (grownCap w n 0 e' - n)) e')).heap[w.heap.size]? = some (.cells (Builtin.zeroCells z.cells n ++ Builtin.zeroCells z.cells (grownCap w n 0 e' - n)) e' (0, 0)) := heap_alloc_new w.drew _
      have hzn := zeroCells_zrep (n := n) hz' h5 h6
      have hzl : (zrep zs n).length = n * xx.size := by rw [zrep_length, hz']; simp [h5]
      refine ⟨fun hh => by omega, h _ _ _ (H.add (w' := w.drew.alloc (.cells (Builtin.zeroCells z.cells n ++ Builtin.zeroCells z.cells (grownCap w n 0 e' - n)) e')) (mc := [.sl (some ⟨w.heap.size, 0, none⟩) n (grownCap w n 0 e') (zrep zs n) e' xx.size]) rfl rfl rfl (by simp) (fun k hk => Below.heap_alloc w.drew _ k hk) ⟨fun k => k = w.heap.size, ⟨⟨hzl, .inr ⟨w.heap.size, _, _, rfl, Nat.zero_le _, hnew, hge, hcm, ?_, ?_⟩⟩, fun a ha => by cases ha; rfl⟩, fun k hk => ?_, trivial⟩) _ (ha.putT (opT_spec ha hq).2.1 _)⟩
      · simp only [Array.size_append, size_zeroCells, h5, ← Nat.add_mul]
        congr 1; omega
      · rw [Array.toList_append, hzn, List.take_append_of_le_length (by omega), List.take_of_length_le (by omega)]
      · subst hk; simp
    · cases h2
  · cases h2
end
end Go.Px
