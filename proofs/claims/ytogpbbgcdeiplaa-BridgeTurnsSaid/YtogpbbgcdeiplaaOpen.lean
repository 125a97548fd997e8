/-
  How flat arguments read (numbers, booleans, arrays and structures of them, slices of these), and how a row that answers true and changes nothing is closed. No condition.
-/
import Derived.Test.YtogpbbgcdeiplaaRules
import Derived.ProofKit
set_option linter.all false
namespace Go.Px
open Go.RowKit Go.ChangeShapes Go.WideShapes

/-- What a cell of a flat type holds. -/
inductive CK where
  | int (k : IntKind)
  | bool
  deriving DecidableEq

def CK.ok : CK → Value → Prop
  | .int k, v => ∃ n, v = .int k n ∧ (Lit.int k n).wf = true
  | .bool, v => ∃ b, v = .bool b

/-- A flat type's cells. -/
def flatK (P : Program) : Nat → TypeId → Option (List CK)
  | 0, _ => none
  | n + 1, t => match P.underlying t with
    | some .bool => some [.bool]
    | some (.int k) => some [.int k]
    | some (.array m e) => match flatK P n e with
      | some ks => if Nat.beq ks.length (P.cellsOf e) && Nat.beq (P.cellsOf t) (m * P.cellsOf e) then some (List.replicate m ks).flatten else none
      | none => none
    | some (.struct fs) => match fs.toList.foldl (fun (o : Option (List CK)) f => match o with
        | some l => match flatK P n f.type with
          | some ks => if Nat.beq f.offset l.length && Nat.beq ks.length (P.cellsOf f.type) then some (l ++ ks) else none
          | none => none
        | none => none) (some []) with
      | some l => if Nat.beq l.length (P.cellsOf t) then some l else none
      | none => none
    | _ => none

inductive OkC : List CK → List Value → Prop where
  | nil : OkC [] []
  | cons {a : CK} {c : Value} {ka : List CK} {cs : List Value} : a.ok c → OkC ka cs → OkC (a :: ka) (c :: cs)

theorem okC_split : ∀ {ka kb : List CK} {cs : List Value}, OkC (ka ++ kb) cs → ∃ c1 c2, cs = c1 ++ c2 ∧ OkC ka c1 ∧ OkC kb c2
  | [], kb, cs, h => ⟨[], cs, rfl, .nil, h⟩
  | a :: ka, kb, cs, h => by
    cases h with
    | cons h1 h2 =>
      obtain ⟨c1, c2, rfl, h3, h4⟩ := okC_split h2
      exact ⟨_ :: c1, c2, rfl, .cons h1 h3, h4⟩

theorem okC_cons {a : CK} {ka : List CK} {cs : List Value} (h : OkC (a :: ka) cs) : ∃ c r, cs = c :: r ∧ a.ok c ∧ OkC ka r := by
  cases h with
  | cons h1 h2 => exact ⟨_, _, rfl, h1, h2⟩

theorem okC_append {ka kb : List CK} {c1 c2 : List Value} (h1 : OkC ka c1) (h2 : OkC kb c2) : OkC (ka ++ kb) (c1 ++ c2) := by
  induction h1 with
  | nil => exact h2
  | cons a _ ih => exact .cons a ih

theorem okC_iv {k : IntKind} : ∀ {n : Nat} {cs : List Value}, OkC (List.replicate n (.int k)) cs → ∃ l : List Int, cs = iv k l ∧ l.length = n ∧ ∀ x ∈ l, (Lit.int k x).wf = true
  | 0, cs, h => by
    cases h
    exact ⟨[], rfl, rfl, by simp⟩
  | n + 1, cs, h => by
    rw [List.replicate_succ] at h
    obtain ⟨c, r, rfl, ⟨x, rfl, hx⟩, h2⟩ := okC_cons h
    obtain ⟨l, rfl, hl, hw⟩ := okC_iv h2
    exact ⟨x :: l, rfl, by simp [hl], by simpa [hx] using hw⟩


theorem mapM_some_cons {α β : Type} {f : α → Option β} {a : α} {l : List α} {r : List β} (h : (a :: l).mapM f = some r) : ∃ x y, f a = some x ∧ l.mapM f = some y ∧ r = x :: y := by
  rw [List.mapM_cons] at h
  cases ha : f a with
  | none => simp [ha] at h
  | some x =>
    cases hl : l.mapM f with
    | none => simp [ha, hl] at h
    | some y => simp [ha, hl] at h; exact ⟨x, y, rfl, rfl, h.symm⟩

variable {H : Type} {enc : TypeId × Value → H} {P : Program} {w : World} {base : Nat} {sp : Nat → Bool} {held : Bool}

theorem flat_trod (n : Nat) : ∀ {t : TypeId} {ks : List CK} (fuel : Nat) {cs : List Value} {x : DataW H × List MemPlace}, flatK P n t = some ks → DataW.trod enc P w base sp held fuel t cs = some x → OkC ks cs := by
  induction n with
  | zero => intro t ks fuel cs x h; simp [flatK] at h
  | succ n ih =>
    intro t ks fuel cs x h hd
    cases fuel with
    | zero => simp [DataW.trod] at hd
    | succ fuel =>
      rw [flatK] at h
      unfold DataW.trod at hd
      split at h
      · rename_i hu
        rw [hu] at hd
        simp only [Option.some.injEq] at h
        subst h
        split at hd <;> simp_all
        exact .cons ⟨_, rfl⟩ .nil
      · rename_i k hu
        rw [hu] at hd
        simp only [Option.some.injEq] at h
        subst h
        split at hd <;> simp_all
        obtain ⟨⟨rfl, h1⟩, h2⟩ := hd
        exact .cons ⟨_, rfl, h1⟩ .nil
      · rename_i m e hu
        split at h
        · rename_i ks' he
          split at h
          · rename_i hb
            simp only [Bool.and_eq_true] at hb
            have hb1 := Nat.eq_of_beq_eq_true hb.1
            have hb2 := Nat.eq_of_beq_eq_true hb.2
            simp only [Option.some.injEq] at h
            subst h
            rw [hu] at hd
            simp only at hd
            split at hd
            · rename_i hl
              cases hm : (List.range m).mapM (fun i => DataW.trod enc P w base sp held fuel e ((cs.drop (i * P.cellsOf e)).take (P.cellsOf e))) with
              | none => rw [hm] at hd; simp at hd
              | some r =>
                have key : ∀ (q a : Nat) (cs : List Value) (r : List (DataW H × List MemPlace)), cs.length = (a + q) * P.cellsOf e → (List.range' a q).mapM (fun i => DataW.trod enc P w base sp held fuel e ((cs.drop (i * P.cellsOf e)).take (P.cellsOf e))) = some r → OkC (List.replicate q ks').flatten (cs.drop (a * P.cellsOf e)) := by
                  intro q
                  induction q with
                  | zero =>
                    intro a cs r hl hm
                    rw [List.drop_eq_nil_of_le (by simp at hl; omega)]
                    exact .nil
                  | succ q ihq =>
                    intro a cs r hl hm
                    rw [List.range'_succ] at hm
                    obtain ⟨x, y, hx, hy, rfl⟩ := mapM_some_cons hm
                    have h1 := ih fuel he hx
                    have h2 := ihq (a + 1) cs y (by rw [hl]; congr 1; omega) hy
                    rw [List.replicate_succ, List.flatten_cons]
                    have : cs.drop (a * P.cellsOf e) = (cs.drop (a * P.cellsOf e)).take (P.cellsOf e) ++ cs.drop ((a + 1) * P.cellsOf e) := by
                      rw [Nat.succ_mul, ← List.drop_drop, List.take_append_drop]
                    rw [this]
                    exact okC_append h1 h2
                have := key m 0 cs r (by simpa [hb2] using hl) (by rw [← List.range_eq_range']; exact hm)
                simpa using this
            · simp at hd
          · simp at h
        · simp at h
      · rename_i fs hu
        split at h
        · rename_i l hf
          split at h
          · rename_i hb
            have hb := Nat.eq_of_beq_eq_true hb
            simp only [Option.some.injEq] at h
            subst h
            rw [hu] at hd
            simp only at hd
            split at hd
            · rename_i hl
              cases hm : fs.toList.mapM (fun f => DataW.trod enc P w base sp held fuel f.type ((cs.drop f.offset).take (P.cellsOf f.type))) with
              | none => rw [hm] at hd; simp at hd
              | some r =>
                have key : ∀ (gs : List Field) (l0 l : List CK) (r : List (DataW H × List MemPlace)),
                    gs.foldl (fun (o : Option (List CK)) f => match o with
                      | some l => match flatK P n f.type with
                        | some ks => if Nat.beq f.offset l.length && Nat.beq ks.length (P.cellsOf f.type) then some (l ++ ks) else none
                        | none => none
                      | none => none) (some l0) = some l →
                    gs.mapM (fun f => DataW.trod enc P w base sp held fuel f.type ((cs.drop f.offset).take (P.cellsOf f.type))) = some r →
                    OkC l0 (cs.take l0.length) → OkC l (cs.take l.length) := by
                  intro gs
                  induction gs with
                  | nil =>
                    intro l0 l r h1 _ h3
                    simp at h1
                    subst h1
                    exact h3
                  | cons f gs ihg =>
                    intro l0 l r h1 h2 h3
                    obtain ⟨x, y, hx, hy, rfl⟩ := mapM_some_cons h2
                    rw [List.foldl_cons] at h1
                    have hnone : ∀ gs : List Field, gs.foldl (fun (o : Option (List CK)) f => match o with
                      | some l => match flatK P n f.type with
                        | some ks => if Nat.beq f.offset l.length && Nat.beq ks.length (P.cellsOf f.type) then some (l ++ ks) else none
                        | none => none
                      | none => none) none = none := by
                      intro gs
                      induction gs with
                      | nil => rfl
                      | cons g gs ih => rw [List.foldl_cons]; exact ih
                    cases hk : flatK P n f.type with
                    | none => simp only [hk] at h1; rw [hnone] at h1; simp at h1
                    | some ks =>
                      simp only [hk] at h1
                      split at h1
                      · rename_i hc
                        simp only [Bool.and_eq_true] at hc
                        have c1 := Nat.eq_of_beq_eq_true hc.1
                        have c2 := Nat.eq_of_beq_eq_true hc.2
                        refine ihg _ _ _ h1 hy ?_
                        have h4 := ih fuel hk hx
                        rw [c1, ← c2] at h4
                        have : cs.take (l0 ++ ks).length = cs.take l0.length ++ (cs.drop l0.length).take ks.length := by
                          rw [List.length_append, List.take_add]
                        rw [this]
                        exact okC_append h3 h4
                      · rw [hnone] at h1; simp at h1
                have := key fs.toList [] l r hf hm (by simpa using OkC.nil)
                rwa [hb, ← hl, List.take_length] at this
            · simp at hd
          · simp at h
        · simp at h
      · simp at h



def isStr (P : Program) (t : TypeId) : Bool := match P.underlying t with
  | some (.struct _) => true
  | _ => false

theorem isStr_some {P : Program} {t : TypeId} (h : isStr P t = true) : ∃ fs, P.underlying t = some (.struct fs) := by
  unfold isStr at h
  split at h
  · rename_i fs heq; exact ⟨fs, heq⟩
  · simp at h


theorem mapM_get {α β : Type} {f : α → Option β} : ∀ {l : List α} {r : List β}, l.mapM f = some r → r.length = l.length ∧ ∀ i (h : i < l.length), ∃ y, f l[i] = some y ∧ r[i]? = some y
  | [], r, h => by simp at h; subst h; simp
  | a :: l, r, h => by
    obtain ⟨x, y, hx, hy, rfl⟩ := mapM_some_cons h
    obtain ⟨h1, h2⟩ := mapM_get hy
    refine ⟨by simp [h1], fun i hi => ?_⟩
    cases i with
    | zero => exact ⟨x, hx, rfl⟩
    | succ i => obtain ⟨z, hz, hr⟩ := h2 i (by simpa using hi); exact ⟨z, by simpa using hz, by simpa using hr⟩

theorem cell_of_cells? {a : Addr} {n : Nat} {cs : List Value} (h : w.cells? base a n = some cs) : cs.length = n ∧ ∀ i, i < n → w.cell? (a.add i) = cs[i]? := by
  unfold World.cells? at h
  split at h
  · obtain ⟨h1, h2⟩ := mapM_get h
    refine ⟨by simpa using h1, fun i hi => ?_⟩
    obtain ⟨y, hy, hr⟩ := h2 i (by simpa using hi)
    rw [hr, ← hy]; simp
  · simp at h

theorem addr_add (a : Addr) (x y : Nat) : (a.add x).add y = a.add (x + y) := by
  unfold Addr.add
  by_cases hx : x = 0 <;> by_cases hy : y = 0 <;> simp [hx, hy, Nat.add_assoc]

/-- A slice of what is flat. -/
theorem trod_slice {t e : TypeId} (ht : P.underlying t = some (.slice e)) (hpos : 0 < P.cellsOf e) {fuel : Nat} {A : Option Addr} {len cap : Nat} {x : DataW H × List MemPlace}
    (hd : DataW.trod enc P w base sp held fuel t [.slice A len cap] = some x) :
    ∃ css : List (List Value), css.length = len ∧ len ≤ cap ∧ cap ≤ maxLen ∧ (∀ cs ∈ css, cs.length = P.cellsOf e ∧ ∃ f y, DataW.trod enc P w base sp held f e cs = some y) ∧ Rd w A css.flatten := by
  cases fuel with
  | zero => simp [DataW.trod] at hd
  | succ fuel =>
    unfold DataW.trod at hd
    rw [ht] at hd
    have hd' : (∃ a, A = some a ∧ (base ≤ a.block ∧ len ≤ cap ∧ cap ≤ maxLen) ∧ ∃ elems, (List.range len).mapM (fun i => (w.cells? base (a.add (i * P.cellsOf e)) (P.cellsOf e)).bind (DataW.trod enc P w base sp held fuel e)) = some elems) ∨ (A = none ∧ len = 0 ∧ cap = 0) := by
      cases A with
      | none =>
        right
        cases len <;> cases cap <;> simp_all
      | some a =>
        left
        refine ⟨a, rfl, ?_⟩
        simp only at hd
        split at hd
        · rename_i hc
          refine ⟨hc, ?_⟩
          obtain ⟨elems, he, -⟩ := Option.bind_eq_some_iff.1 hd
          exact ⟨elems, he⟩
        · simp at hd
    clear hd
    rcases hd' with ⟨a, rfl, ⟨hb, hl, hc⟩, elems, he⟩ | ⟨rfl, rfl, rfl⟩
    rotate_left
    · exact ⟨[], rfl, Nat.zero_le _, by unfold maxLen; omega, by simp, Or.inl rfl⟩
    · skip
      obtain ⟨h1, h2⟩ := mapM_get he
      simp at h1
      have hcs : ∀ i, i < len → ∃ cs y, w.cells? base (a.add (i * P.cellsOf e)) (P.cellsOf e) = some cs ∧ DataW.trod enc P w base sp held fuel e cs = some y := by
        intro i hi
        obtain ⟨y, hy, -⟩ := h2 i (by simpa using hi)
        obtain ⟨cs, g1, g2⟩ := Option.bind_eq_some_iff.1 hy
        exact ⟨cs, y, by simpa using g1, g2⟩
      let css := (List.range len).map fun i => ((w.cells? base (a.add (i * P.cellsOf e)) (P.cellsOf e)).getD [])
      have hget : ∀ i, i < len → ∃ cs, css[i]? = some cs ∧ w.cells? base (a.add (i * P.cellsOf e)) (P.cellsOf e) = some cs := by
        intro i hi
        obtain ⟨cs, y, g1, g2⟩ := hcs i hi
        exact ⟨cs, by simp [css, hi, g1], g1⟩
      have hlen : ∀ cs ∈ css, cs.length = P.cellsOf e := by
        intro cs hcs'
        obtain ⟨i, hi, rfl⟩ := List.mem_iff_getElem.1 hcs'
        have hi' : i < len := by simpa [css] using hi
        obtain ⟨cs, g1, g2⟩ := hget i hi'
        rw [List.getElem?_eq_getElem hi] at g1
        simp only [Option.some.injEq] at g1
        rw [g1]
        exact (cell_of_cells? g2).1
      refine ⟨css, by simp [css], hl, hc, fun cs hcs' => ⟨hlen cs hcs', ?_⟩, ?_⟩
      · obtain ⟨i, hi, rfl⟩ := List.mem_iff_getElem.1 hcs'
        have hi' : i < len := by simpa [css] using hi
        obtain ⟨cs, y, g1, g2⟩ := hcs i hi'
        exact ⟨fuel, y, by simp [css, g1, g2]⟩
      · by_cases hz : len = 0
        · left; simp [css, hz]
        right
        have hflat : ∀ (css : List (List Value)) (n : Nat), (∀ cs ∈ css, cs.length = n) → css.flatten.length = css.length * n ∧ ∀ i j, i < css.length → j < n → css.flatten[i * n + j]? = (css[i]?.getD [])[j]? := by
          intro css n
          induction css with
          | nil => simp
          | cons c css ih =>
            intro h
            obtain ⟨i1, i2⟩ := ih (fun x hx => h x (by simp [hx]))
            have hcl := h c (by simp)
            refine ⟨by simp only [List.flatten_cons, List.length_append, hcl, i1, List.length_cons, Nat.succ_mul]; omega, fun i j hi hj => ?_⟩
            cases i with
            | zero =>
              rw [List.flatten_cons, Nat.zero_mul, Nat.zero_add, List.getElem?_append_left (by omega)]; simp
            | succ i =>
              rw [List.flatten_cons, List.getElem?_append_right (by rw [Nat.succ_mul]; omega), show (i + 1) * n + j - c.length = i * n + j by rw [Nat.succ_mul]; omega, i2 i j (by simpa using hi) hj]
              simp
        obtain ⟨f1, f2⟩ := hflat css _ hlen
        have hcl : css.length = len := by simp [css]
        rw [hcl] at f1 f2
        have hread : ∀ j, j < css.flatten.length → w.cell? (a.add j) = css.flatten[j]? := by
          intro j hj
          rw [f1] at hj
          have hi : j / P.cellsOf e < len := (Nat.div_lt_iff_lt_mul hpos).2 hj
          have hm := Nat.mod_lt j hpos
          have hdm : j / P.cellsOf e * P.cellsOf e + j % P.cellsOf e = j := by rw [Nat.mul_comm]; exact Nat.div_add_mod _ _
          obtain ⟨cs, g1, g2⟩ := hget _ hi
          have := f2 _ _ hi hm
          rw [hdm] at this
          rw [this, g1]
          have h3 := (cell_of_cells? g2).2 _ hm
          simp only [Option.getD_some]
          rw [← h3]
          congr 1
          rw [addr_add, hdm]
        obtain ⟨b, off, spot⟩ := a
        have h0 := hread 0 (by rw [f1]; exact Nat.mul_pos (by omega) hpos)
        have hsome : ∃ v0, css.flatten[0]? = some v0 := ⟨_, List.getElem?_eq_getElem (by rw [f1]; exact Nat.mul_pos (by omega) hpos)⟩
        obtain ⟨v0, hv0⟩ := hsome
        rw [hv0] at h0
        have hspot : spot = none := by simpa [Addr.add] using World.cell?_spot h0
        subst hspot
        have hblk : ∃ blk T fr, w.heap[b]? = some (.cells blk T fr) := by
          have := h0
          unfold World.cell? at this
          simp only [Addr.add] at this
          cases hh : w.heap[b]? with
          | none => simp [hh] at this
          | some o => cases o <;> simp_all
        obtain ⟨blk, T, fr, hblk⟩ := hblk
        refine ⟨b, off, blk, T, fr, rfl, hblk, fun j hj => ?_⟩
        have := hread j hj
        rw [← this]
        by_cases hj0 : j = 0 <;> simp [World.cell?, Addr.add, hblk, hj0]




theorem Rd.left {w : World} {A : Option Addr} {xs ys : List Value} (h : Rd w A (xs ++ ys)) : Rd w A xs := by
  rcases h with h | h
  · left; simp only [List.append_eq_nil_iff] at h; exact h.1
  · by_cases hz : xs = []
    · left; exact hz
    right
    obtain ⟨b, off, blk, T, fr, rfl, h1, h2⟩ := h
    refine ⟨b, off, blk, T, fr, rfl, h1, fun j hj => ?_⟩
    rw [h2 j (by simp; omega), List.getElem?_append_left hj]


theorem wfI {k : IntKind} {n : Int} (h : (Lit.int k n).wf = true) : k.min ≤ n ∧ n ≤ k.max := by simpa [Lit.wf] using h
theorem wfU64 {n : Int} (h : (Lit.int .u64 n).wf = true) : 0 ≤ n ∧ n < 18446744073709551616 := by
  have := wfI h; simp [IntKind.min, IntKind.max, IntKind.signed, IntKind.bits] at this; omega
theorem wfU8 {n : Int} (h : (Lit.int .u8 n).wf = true) : 0 ≤ n ∧ n < 256 := by
  have := wfI h; simp [IntKind.min, IntKind.max, IntKind.signed, IntKind.bits] at this; omega

end Go.Px
