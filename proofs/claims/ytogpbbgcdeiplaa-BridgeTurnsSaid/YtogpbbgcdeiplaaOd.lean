/-
  How arguments read whose slices hold slices: by their types, with their sizes. No condition.
-/
import Derived.Test.YtogpbbgcdeiplaaOpen
import Derived.SizedLaws
set_option linter.all false
namespace Go.Px
open Go.RowKit Go.ChangeShapes Go.WideShapes

def ftys (P : Program) (t : TypeId) : Option (List TypeId) := match P.underlying t with
  | some (.struct fs) => some (fs.toList.map (·.type))
  | _ => none
def OkTs (R : TypeId → List Value → Prop) : List TypeId → List Value → Prop
  | [], cs => cs = []
  | t :: ts, cs => ∃ c r, cs = c ++ r ∧ R t c ∧ OkTs R ts r
/-- What cells of a type read as: flat ones, slices, structures of these. -/
def OkT (P : Program) (W : World) : Nat → TypeId → List Value → Prop
  | 0, _, _ => False
  | n + 1, t, cs => match flatK P 20 t with
    | some ks => OkC ks cs
    | none => match P.underlying t with
      | some (.slice e) => ∃ (A : Option Addr) (css : List (List Value)) (cap : Nat), cs = [.slice A css.length cap] ∧ (∀ c ∈ css, c.length = P.cellsOf e ∧ OkT P W n e c) ∧ Rd W A css.flatten ∧ css.length ≤ cap ∧ (A = none → css = [] ∧ cap = 0) ∧ cap * P.bytesOf e ≤ reachBytes
      | _ => match ftys P t with
        | some ts => OkTs (OkT P W n) ts cs
        | none => False
def offOk (P : Program) : List Field → Nat → Option Nat
  | [], o => some o
  | f :: fs, o => bif Nat.beq f.offset o then offOk P fs (o + P.cellsOf f.type) else none
/-- Types that are read so. -/
def depT (P : Program) : Nat → TypeId → Bool
  | 0, _ => false
  | n + 1, t => match flatK P 20 t with
    | some _ => true
    | none => match P.underlying t with
      | some (.slice e) => depT P n e && Nat.blt 0 (P.cellsOf e)
      | some (.struct fs) => fs.toList.all (fun f => depT P n f.type) && (match offOk P fs.toList 0 with
        | some o => Nat.beq o (P.cellsOf t)
        | none => false)
      | _ => false

section
variable {H : Type} {enc : TypeId × Value → H} {P : Program} {w : World} {base : Nat} {held : Bool}

theorem wts_mem {e : TypeId} : ∀ {l : List (DataW H)} {d : DataW H}, d ∈ l → ∀ m ∈ d.weights P e, m ∈ DataW.weightsAll P e l
  | [], _, h, _, _ => by cases h
  | x :: l, d, h, m, hm => by
    simp only [DataW.weightsAll, List.mem_append]
    rcases List.mem_cons.1 h with rfl | h
    · exact .inl hm
    · exact .inr (wts_mem h m hm)

/-- A slice, its elements each with what it is told to be. -/
theorem trod_sliceW {t e : TypeId} (ht : P.underlying t = some (.slice e)) (hpos : 0 < P.cellsOf e) {fuel : Nat} {A : Option Addr} {len cap : Nat} {x : DataW H × List MemPlace}
    (hd : DataW.trod enc P w base (fun _ => true) held (fuel + 1) t [.slice A len cap] = some x) :
    ∃ css : List (List Value), css.length = len ∧ len ≤ cap ∧ Rd w A css.flatten ∧ (A = none → css = [] ∧ cap = 0) ∧ (A ≠ none → cap * P.bytesOf e ∈ x.1.weights P t) ∧
      ∀ cs ∈ css, cs.length = P.cellsOf e ∧ ∃ y, DataW.trod enc P w base (fun _ => true) held fuel e cs = some y ∧ ∀ m ∈ y.1.weights P e, m ∈ x.1.weights P t := by
  obtain ⟨css, h1, h2, h3, h4, h5⟩ := trod_slice ht hpos hd
  have hd0 := hd
  unfold DataW.trod at hd
  rw [ht] at hd
  cases A with
  | none =>
    have h0 : len = 0 ∧ cap = 0 := by cases len <;> cases cap <;> simp_all
    obtain ⟨rfl, rfl⟩ := h0
    have := List.length_eq_zero_iff.1 h1
    subst this
    exact ⟨[], rfl, Nat.le_refl _, h5, fun _ => ⟨rfl, rfl⟩, fun h => (h rfl).elim, by simp⟩
  | some a =>
    simp only at hd
    split at hd
    · rename_i hc
      obtain ⟨elems, he, hd⟩ := Option.bind_eq_some_iff.1 hd
      simp only [if_true] at hd
      obtain ⟨rest, hr, hx⟩ := Option.map_eq_some_iff.1 hd
      have e1 := (mapM_get he).1
      have e2 := (mapM_get hr).1
      simp only [List.length_range] at e1 e2
      have hxw : x.1.weights P t = ((elems.map (·.1)).length + (rest.map (·.1)).length) * P.bytesOf e :: (DataW.weightsAll P e (elems.map (·.1)) ++ DataW.weightsAll P e (rest.map (·.1))) := by
        rw [← hx]; simp only [DataW.weights, ht]
      -- the cells of each element
      have hcs : ∀ i, i < len → ∃ cs y, w.cells? base (a.add (i * P.cellsOf e)) (P.cellsOf e) = some cs ∧ DataW.trod enc P w base (fun _ => true) held fuel e cs = some y ∧ y ∈ elems := by
        intro i hi
        obtain ⟨y, hy, hyr⟩ := (mapM_get he).2 i (by simpa using hi)
        obtain ⟨cs, g1, g2⟩ := Option.bind_eq_some_iff.1 hy
        exact ⟨cs, y, by simpa using g1, g2, List.mem_of_getElem? hyr⟩
      have hrow : ∀ i (hi : i < css.length), ∃ cs y, css[i] = cs ∧ DataW.trod enc P w base (fun _ => true) held fuel e cs = some y ∧ y ∈ elems := by
        intro i hi
        obtain ⟨cs, y, g1, g2, g3⟩ := hcs i (by omega)
        obtain ⟨c1, c2⟩ := cell_of_cells? g1
        refine ⟨cs, y, ?_, g2, g3⟩
        -- both read the same cells
        have hfl : ∀ (css : List (List Value)) (n : Nat), (∀ cs ∈ css, cs.length = n) → ∀ i j, i < css.length → j < n → css.flatten[i * n + j]? = (css[i]?.getD [])[j]? := by
          intro css n
          induction css with
          | nil => simp
          | cons c css ih =>
            intro h i j hi hj
            have hcl := h c (by simp)
            cases i with
            | zero => rw [List.flatten_cons, Nat.zero_mul, Nat.zero_add, List.getElem?_append_left (by omega)]; simp
            | succ i =>
              rw [List.flatten_cons, List.getElem?_append_right (by rw [Nat.succ_mul]; omega), show (i + 1) * n + j - c.length = i * n + j by rw [Nat.succ_mul]; omega, ih (fun x hx => h x (by simp [hx])) i j (by simpa using hi) hj]
              simp
        have hlen : ∀ cs ∈ css, cs.length = P.cellsOf e := fun cs hcs' => (h4 cs hcs').1
        have hl2 : css.flatten.length = css.length * P.cellsOf e := by
          have : ∀ (css : List (List Value)) (n : Nat), (∀ cs ∈ css, cs.length = n) → css.flatten.length = css.length * n := by
            intro css n
            induction css with
            | nil => simp
            | cons c css ih => intro h; simp only [List.flatten_cons, List.length_append, h c (by simp), ih (fun x hx => h x (by simp [hx])), List.length_cons, Nat.succ_mul]; omega
          exact this css _ hlen
        refine List.ext_getElem? fun j => ?_
        by_cases hj : j < P.cellsOf e
        · have f2 := hfl css _ hlen i j hi hj
          rw [List.getElem?_eq_getElem hi] at f2
          simp only [Option.getD_some] at f2
          rw [← f2]
          have hk : i * P.cellsOf e + j < css.flatten.length := by
            rw [hl2]
            have := Nat.mul_le_mul_right (P.cellsOf e) (show i + 1 ≤ css.length by omega)
            rw [Nat.succ_mul] at this; omega
          rcases h5 with h5 | ⟨b, off, blk, T, fr, hA, hb, hcc⟩
          · rw [h5] at hk; simp at hk
          · simp only [Option.some.injEq] at hA
            subst hA
            rw [← hcc _ hk, ← c2 j hj]
            simp only [Addr.add]
            by_cases hz : i * P.cellsOf e = 0 <;> by_cases hz2 : j = 0 <;> simp [hz, hz2, World.cell?, hb, Nat.add_assoc]
        · rw [List.getElem?_eq_none (by rw [hlen _ (List.getElem_mem hi)]; omega), List.getElem?_eq_none (by omega)]
      refine ⟨css, h1, h2, h5, fun h => (by cases h), fun _ => ?_, fun cs hcs' => ?_⟩
      · rw [hxw]
        have : (elems.map (·.1)).length + (rest.map (·.1)).length = cap := by simp [e1, e2]; omega
        rw [this]; simp
      · obtain ⟨i, hi, rfl⟩ := List.mem_iff_getElem.1 hcs'
        obtain ⟨cs, y, g1, g2, g3⟩ := hrow i hi
        refine ⟨(h4 _ hcs').1, y, by rw [g1]; exact g2, fun m hm => ?_⟩
        rw [hxw]
        exact List.mem_cons_of_mem _ (List.mem_append_left _ (wts_mem (List.mem_map.2 ⟨y, g3, rfl⟩) m hm))
    · simp at hd


theorem okT_of : ∀ (n : Nat) {t : TypeId} {fuel : Nat} {cs : List Value} {x : DataW H × List MemPlace}, depT P n t = true → DataW.trod enc P w base (fun _ => true) held fuel t cs = some x → (∀ m ∈ x.1.weights P t, m ≤ reachBytes) → OkT P w n t cs
  | 0, _, _, _, _, h, _, _ => by simp [depT] at h
  | n + 1, t, fuel, cs, x, h, hd, hw => by
    unfold depT at h
    unfold OkT
    cases hf : flatK P 20 t with
    | some ks => simp only; exact flat_trod 20 fuel hf hd
    | none =>
      rw [hf] at h
      simp only at h ⊢
      cases fuel with
      | zero => simp [DataW.trod] at hd
      | succ fuel =>
        split at h
        · rename_i e hu
          simp only [Bool.and_eq_true] at h
          have hpos := Nat.blt_eq.mp h.2
          have hform : ∃ A len cap, cs = [.slice A len cap] := by
            unfold DataW.trod at hd
            rw [hu] at hd
            split at hd <;> simp_all
          obtain ⟨A, len, cap, rfl⟩ := hform
          obtain ⟨css, h1, h2, h3, h4, h5, h6⟩ := trod_sliceW hu hpos hd
          subst h1
          rw [hu]
          show ∃ (A' : Option Addr) (css' : List (List Value)) (cap' : Nat), [Value.slice A css.length cap] = [.slice A' css'.length cap'] ∧ (∀ c ∈ css', c.length = P.cellsOf e ∧ OkT P w n e c) ∧ Rd w A' css'.flatten ∧ css'.length ≤ cap' ∧ (A' = none → css' = [] ∧ cap' = 0) ∧ cap' * P.bytesOf e ≤ reachBytes
          refine ⟨A, css, cap, rfl, fun c hc => ?_, h3, h2, h4, ?_⟩
          · obtain ⟨g1, y, g2, g3⟩ := h6 c hc
            exact ⟨g1, okT_of n h.1 g2 fun m hm => hw m (g3 m hm)⟩
          · by_cases hA : A = none
            · rw [(h4 hA).2]; simp
            · exact hw _ (h5 hA)
        · rename_i fs hu
          simp only [Bool.and_eq_true] at h
          have hft : ftys P t = some (fs.toList.map (·.type)) := by unfold ftys; rw [hu]
          unfold DataW.trod at hd
          rw [hu] at hd
          simp only at hd
          split at hd
          · rename_i hl
            obtain ⟨r, hr, rfl⟩ := Option.map_eq_some_iff.1 hd
            have hw2 : ∀ m ∈ DataW.weightsEach P (fs.toList.map (·.type)) (r.map (·.1)), m ≤ reachBytes := by
              intro m hm
              refine hw m ?_
              simp only [DataW.weights, hu]; exact hm
            have key : ∀ (gs : List Field) (o z : Nat) (r : List (DataW H × List MemPlace)), offOk P gs o = some z → (∀ g ∈ gs, depT P n g.type = true) → z ≤ cs.length →
                gs.mapM (fun f => DataW.trod enc P w base (fun _ => true) held fuel f.type ((cs.drop f.offset).take (P.cellsOf f.type))) = some r → (∀ m ∈ DataW.weightsEach P (gs.map (·.type)) (r.map (·.1)), m ≤ reachBytes) →
                o ≤ z ∧ OkTs (OkT P w n) (gs.map (·.type)) ((cs.drop o).take (z - o)) := by
              intro gs
              induction gs with
              | nil =>
                intro o z r h1 _ hz _ _
                simp only [offOk, Option.some.injEq] at h1; subst h1
                exact ⟨Nat.le_refl _, by simp [OkTs]⟩
              | cons g gs ih =>
                intro o z r h1 hg hz h2 h3
                simp only [offOk, cond_eq_ite] at h1
                split at h1
                · rename_i ho
                  have ho := Nat.eq_of_beq_eq_true ho
                  obtain ⟨x, y, hx, hy, rfl⟩ := mapM_some_cons h2
                  simp only [List.map_cons, DataW.weightsEach, List.mem_append] at h3
                  obtain ⟨i1, i2⟩ := ih _ _ _ h1 (fun g' hg' => hg g' (by simp [hg'])) hz hy (fun m hm => h3 m (.inr hm))
                  refine ⟨by omega, _, _, ?_, okT_of n (hg g (by simp)) hx (fun m hm => h3 m (.inl hm)), i2⟩
                  rw [ho, ← List.drop_drop, show z - o = P.cellsOf g.type + (z - (o + P.cellsOf g.type)) by omega, List.take_add]
                · cases h1
            have h2 := h.2
            split at h2
            · rename_i o ho
              have h2 := Nat.eq_of_beq_eq_true h2
              obtain ⟨-, k2⟩ := key fs.toList 0 o r ho (fun g hg => List.all_eq_true.1 h.1 g hg) (by omega) hr hw2
              rw [List.drop_zero, Nat.sub_zero, List.take_of_length_le (by omega)] at k2
              have : (match P.underlying t with
                | some (.slice e) => ∃ (A : Option Addr) (css : List (List Value)) (cap : Nat), cs = [.slice A css.length cap] ∧ (∀ c ∈ css, c.length = P.cellsOf e ∧ OkT P w n e c) ∧ Rd w A css.flatten ∧ css.length ≤ cap ∧ (A = none → css = [] ∧ cap = 0) ∧ cap * P.bytesOf e ≤ reachBytes
                | _ => match ftys P t with
                  | some ts => OkTs (OkT P w n) ts cs
                  | none => False) := by
                rw [hu, hft]; exact k2
              exact this
            · cases h2
          · simp at hd
        · cases h
theorem okT_flat {n : Nat} {t : TypeId} {cs : List Value} {ks : List CK} (h : OkT P w (n + 1) t cs) (hf : flatK P 20 t = some ks) : OkC ks cs := by
  unfold OkT at h; rw [hf] at h; exact h
theorem okT_slice {n : Nat} {t e : TypeId} {cs : List Value} (h : OkT P w (n + 1) t cs) (hf : (flatK P 20 t).isNone = true) (hu : P.underlying t = some (.slice e)) :
    ∃ (A : Option Addr) (css : List (List Value)) (cap : Nat), cs = [.slice A css.length cap] ∧ (∀ c ∈ css, c.length = P.cellsOf e ∧ OkT P w n e c) ∧ Rd w A css.flatten ∧ css.length ≤ cap ∧ (A = none → css = [] ∧ cap = 0) ∧ cap * P.bytesOf e ≤ reachBytes := by
  unfold OkT at h; rw [Option.isNone_iff_eq_none.1 hf, hu] at h; exact h
def isSt (P : Program) (t : TypeId) (ts : List TypeId) : Bool := (flatK P 20 t).isNone && ftys P t == some ts
theorem okT_struct {n : Nat} {t : TypeId} {cs : List Value} {ts : List TypeId} (h : OkT P w (n + 1) t cs) (hf : isSt P t ts = true) : OkTs (OkT P w n) ts cs := by
  simp only [isSt, Bool.and_eq_true, beq_iff_eq] at hf
  unfold OkT at h
  rw [Option.isNone_iff_eq_none.1 hf.1] at h
  have h2 := hf.2
  unfold ftys at h2
  split at h2
  · rename_i fs hu
    simp only [Option.some.injEq] at h2
    simp only at h
    rw [hu] at h
    simp only [ftys, hu, h2] at h
    exact h
  · cases h2
/-- An argument. -/
theorem okT_arg {ts : List TypeId} {ds : List (DataW H)} {t : TypeId} {v : Value} {d : DataW H} {ps : List MemPlace} (n j : Nat) (hsz : (DataW.weightsEach P ts ds).all (· ≤ reachBytes) = true) (h1 : ts[j]? = some t) (h2 : ds[j]? = some d)
    (hd : DataW.Trod enc P w base (fun _ => true) held t v d ps) (hn : depT P n t = true) : OkT P w n t v.cells.toList := by
  obtain ⟨fuel, hf⟩ := hd
  exact okT_of n hn hf fun m hm => by
    have := List.all_eq_true.1 hsz m (DataW.weights_mem_each h1 h2 m hm)
    simpa using this
end
/-- A structure that is handed in. -/
theorem open_dst {P : Program} {w : World} {n : Nat} {r : Reach} {b0 : Nat} {t : TypeId} {v : Value} (ht : isStr P t = true) (hval : Value.okWide P w r b0 t v) (h : OkT P w n t v.cells.toList) :
    ∃ cs : List Value, v = .agg cs.toArray ∧ OkT P w n t cs := by
  obtain ⟨fs, ht⟩ := isStr_some ht
  obtain ⟨cs, rfl, hs⟩ := okWide_struct ht hval
  exact ⟨cs.toList, rfl, by simpa [Value.cells] using h⟩
/-- Rows of cells as values of one form. -/
theorem rows_of {α : Type} {R : List Value → Prop} {form : α → List Value} {ok : α → Prop} (h : ∀ cs, R cs → ∃ a, cs = form a ∧ ok a) : ∀ {css : List (List Value)}, (∀ cs ∈ css, R cs) → ∃ l : List α, css.flatten = l.flatMap form ∧ l.length = css.length ∧ ∀ a ∈ l, ok a
  | [], _ => ⟨[], rfl, rfl, by simp⟩
  | cs :: css, hc => by
    obtain ⟨a, rfl, ha⟩ := h cs (hc cs (by simp))
    obtain ⟨l, h1, h2, h3⟩ := rows_of h (css := css) (fun x hx => hc x (by simp [hx]))
    exact ⟨a :: l, by simp [h1], by simp [h2], by simpa [ha] using h3⟩
end Go.Px
