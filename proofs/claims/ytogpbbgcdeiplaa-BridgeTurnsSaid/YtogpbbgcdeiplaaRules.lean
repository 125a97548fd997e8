/-
  The rules of this seat's walks: one for each kind of operation and of code, over what is known of temporaries and of memory. No condition.
-/
import Derived.Test.YtogpbbgcdeiplaaBase
import Derived.ChangeKeysEq
import Derived.Laws.StructEq
import Derived.OwnWalk
import Derived.Laws.OwnMore
set_option linter.all false
namespace Go.Px
open Go.RowKit

/-! ### Memory -/

/-- A row of cells. -/
abbrev row (cs : List Value) (T : TypeId) : Obj := .cells cs.toArray T (0, 0)

/-- What is known of a piece of memory: a block; a slice of the call's own, with its room; or whatever stands as long as its blocks stay. -/
inductive Ent where
  | bk (b : Nat) (o : Obj)
  | sl (A : Option Addr) (n c : Nat) (xs : List Value) (e : TypeId) (size : Nat)
  | pr (φ : World → Prop)
abbrev Mem := List Ent

/-- The piece stands in w, on the blocks G. -/
def Ent.on (w : World) (G : Nat → Prop) : Ent → Prop
  | .bk b o => w.heap[b]? = some o ∧ G b
  | .sl A n c xs e s => w.ownsRow 0 e s (.slice A n c) n xs ∧ ∀ a, A = some a → G a.block
  | .pr φ => ∀ w', (∀ k, G k → w'.heap[k]? = w.heap[k]?) → φ w'

theorem Ent.on.mono {w : World} {G G' : Nat → Prop} {e : Ent} (h : e.on w G) (hG : ∀ k, G k → G' k) : e.on w G' := by
  cases e with
  | bk b o => exact ⟨h.1, hG _ h.2⟩
  | sl A n c xs e s => exact ⟨h.1, fun a ha => hG _ (h.2 a ha)⟩
  | pr φ => exact fun w' hw => h w' fun k hk => hw k (hG k hk)

theorem ownsRow_agree {w w' : World} {e : TypeId} {s : Nat} {v : Value} {n : Nat} {xs : List Value} (h : w.ownsRow 0 e s v n xs) (hw : ∀ k, v.ownBlock = some k → w'.heap[k]? = w.heap[k]?) : w'.ownsRow 0 e s v n xs := by
  refine ⟨h.1, ?_⟩
  rcases h.2 with h2 | ⟨g, cap, cur, rfl, h3, h4, h5⟩
  · exact .inl h2
  · exact .inr ⟨g, cap, cur, rfl, h3, by rw [hw g rfl]; exact h4, h5⟩

theorem Ent.on.agree {w w' : World} {G : Nat → Prop} {e : Ent} (h : e.on w G) (hw : ∀ k, G k → w'.heap[k]? = w.heap[k]?) : e.on w' G := by
  cases e with
  | bk b o => exact ⟨by rw [hw _ h.2]; exact h.1, h.2⟩
  | sl A n c xs e s =>
    refine ⟨ownsRow_agree h.1 fun k hk => ?_, h.2⟩
    cases A with
    | none => simp [Value.ownBlock] at hk
    | some a =>
      simp only [Value.ownBlock, Option.some.injEq] at hk
      subst hk
      exact hw _ (h.2 a rfl)
  | pr φ => exact fun w'' hw' => h w'' fun k hk => (hw' k hk).trans (hw k hk)

/-- The pieces stand apart, on the blocks F. -/
def Sep (w : World) : Mem → (Nat → Prop) → Prop
  | [], _ => True
  | e :: m, F => ∃ G : Nat → Prop, e.on w G ∧ (∀ k, G k → F k) ∧ Sep w m (fun k => F k ∧ ¬ G k)

theorem Sep.mono {w : World} : ∀ {m : Mem} {F F' : Nat → Prop}, Sep w m F → (∀ k, F k → F' k) → Sep w m F'
  | [], _, _, _, _ => trivial
  | _ :: _, _, _, ⟨G, h1, h2, h3⟩, h => ⟨G, h1, fun k hk => h k (h2 k hk), Sep.mono h3 fun k hk => ⟨h k hk.1, hk.2⟩⟩

theorem Sep.agree {w w' : World} : ∀ {m : Mem} {F : Nat → Prop}, Sep w m F → (∀ k, F k → w'.heap[k]? = w.heap[k]?) → Sep w' m F
  | [], _, _, _ => trivial
  | _ :: _, _, ⟨G, h1, h2, h3⟩, h => ⟨G, h1.agree fun k hk => h k (h2 k hk), h2, Sep.agree h3 fun k hk => h k hk.1⟩

theorem Sep.app {w : World} : ∀ {m m' : Mem} {F F' F'' : Nat → Prop}, Sep w m F → Sep w m' F' → (∀ k, F k → ¬ F' k) → (∀ k, F k → F'' k) → (∀ k, F' k → F'' k) → Sep w (m ++ m') F''
  | [], _, _, _, _, _, h', _, _, h2 => h'.mono h2
  | _ :: _, _, _, _, _, ⟨G, g1, g2, g3⟩, h', hd, h1, h2 => ⟨G, g1, fun k hk => h1 k (g2 k hk), Sep.app g3 h' (fun k hk => hd k hk.1) (fun k hk => ⟨h1 k hk.1, hk.2⟩) (fun k hk => ⟨h2 k hk, fun hg => hd k (g2 k hg) hk⟩)⟩

theorem Sep.sub {w : World} {m m' : Mem} (hs : m'.Sublist m) : ∀ {F : Nat → Prop}, Sep w m F → Sep w m' F := by
  induction hs with
  | slnil => exact fun h => h
  | cons _ _ ih => exact fun ⟨G, _, _, h3⟩ => ih (h3.mono fun k hk => hk.1)
  | cons_cons _ _ ih => exact fun ⟨G, h1, h2, h3⟩ => ⟨G, h1, h2, ih h3⟩

theorem Sep.perm {w : World} {m m' : Mem} (hs : m.Perm m') : ∀ {F : Nat → Prop}, Sep w m F → Sep w m' F := by
  induction hs with
  | nil => exact fun h => h
  | cons _ _ ih => exact fun ⟨G, h1, h2, h3⟩ => ⟨G, h1, h2, ih h3⟩
  | swap x y l =>
    rintro F ⟨G, h1, h2, G', h3, h4, h5⟩
    exact ⟨G', h3, fun k hk => (h4 k hk).1, G, h1, fun k hk => ⟨h2 k hk, fun hg => (h4 k hg).2 hk⟩, h5.mono fun k hk => ⟨⟨hk.1.1, hk.2⟩, hk.1.2⟩⟩
  | trans _ _ ih1 ih2 => exact fun h => ih2 (ih1 h)

/-- One piece taken out, and another put in its stead. -/
theorem Sep.at {w : World} {e : Ent} : ∀ {m : Mem} {k : Nat} {F : Nat → Prop}, Sep w m F → m[k]? = some e → ∃ G : Nat → Prop, e.on w G ∧ (∀ j, G j → F j) ∧
    ∀ (w' : World) (e' : Ent) (G' : Nat → Prop), (∀ j, F j → ¬ G j → w'.heap[j]? = w.heap[j]?) → e'.on w' G' → (∀ j, G' j → G j ∨ ¬ F j) → Sep w' (m.set k e') (fun j => (F j ∧ ¬ G j) ∨ G' j)
  | [], k, _, _, hk => by simp at hk
  | e0 :: m, 0, F, ⟨G, h1, h2, h3⟩, hk => by
    simp only [List.getElem?_cons_zero, Option.some.injEq] at hk
    subst hk
    refine ⟨G, h1, h2, fun w' e' G' ha he hG => ⟨G', he, fun k hk => .inr hk, ?_⟩⟩
    refine (Sep.agree h3 fun k hk => ha k hk.1 hk.2).mono fun k hk => ⟨.inl hk, fun hg => ?_⟩
    rcases hG k hg with h | h
    · exact hk.2 h
    · exact h hk.1
  | e0 :: m, k + 1, F, ⟨H, h1, h2, h3⟩, hk => by
    obtain ⟨G, g1, g2, g3⟩ := Sep.at h3 (k := k) (by simpa using hk)
    refine ⟨G, g1, fun j hj => (g2 j hj).1, fun w' e' G' ha he hG => ⟨H, h1.agree fun j hj => ha j (h2 j hj) fun hg => (g2 j hg).2 hj, fun j hj => .inl ⟨h2 j hj, fun hg => (g2 j hg).2 hj⟩, ?_⟩⟩
    refine (g3 w' e' G' (fun j hj hg => ha j hj.1 hg) he fun j hj => ?_).mono fun j hj => ?_
    · rcases hG j hj with h | h
      · exact .inl h
      · exact .inr fun hh => h hh.1
    · rcases hj with hj | hj
      · exact ⟨.inl ⟨hj.1.1, hj.2⟩, hj.1.2⟩
      · refine ⟨.inr hj, fun hh => ?_⟩
        rcases hG j hj with h | h
        · exact (g2 j h).2 hh
        · exact h (h2 j hh)

/-- From w0 on only the blocks M were changed, and what the list says stands there. -/
structure Hp (M : Nat → Prop) (w0 w : World) (m : Mem) : Prop where
  os : w.os = w0.os
  tape : w.tape = w0.tape
  output : w.output = w0.output
  size : w0.heap.size ≤ w.heap.size
  old : ∀ k, k < w0.heap.size → ¬ M k → w.heap[k]? = w0.heap[k]?
  sep : Sep w m (fun k => k < w.heap.size ∧ (w0.heap.size ≤ k ∨ M k))

theorem lt_of_some {w : World} {b : Nat} {o : Obj} (h : w.heap[b]? = some o) : b < w.heap.size := (Array.getElem?_eq_some_iff.1 h).1

theorem Hp.start (w : World) : Hp no w w [] := ⟨rfl, rfl, rfl, Nat.le_refl _, fun _ _ _ => rfl, trivial⟩

theorem Hp.below {w0 w : World} {m : Mem} (H : Hp no w0 w m) : Below w0.heap.size w0 w :=
  ⟨H.os, H.tape, H.output, H.size, fun k hk => H.old k hk (fun h => h)⟩

theorem Hp.keep {w0 w : World} {m : Mem} (H : Hp no w0 w m) : Keep w0 w := ⟨H.size, fun k hk => H.old k hk (fun h => h)⟩

theorem Hp.sub {M : Nat → Prop} {w0 w : World} {m m' : Mem} (H : Hp M w0 w m) (h : m'.Sublist m) : Hp M w0 w m' :=
  ⟨H.os, H.tape, H.output, H.size, H.old, H.sep.sub h⟩

theorem Hp.perm {M : Nat → Prop} {w0 w : World} {m m' : Mem} (H : Hp M w0 w m) (h : m.Perm m') : Hp M w0 w m' :=
  ⟨H.os, H.tape, H.output, H.size, H.old, H.sep.perm h⟩

theorem Hp.nil {M : Nat → Prop} {w0 w : World} {m : Mem} (H : Hp M w0 w m) : Hp M w0 w [] := H.sub (List.nil_sublist _)

theorem Hp.one {M : Nat → Prop} {w0 w : World} {m : Mem} (H : Hp M w0 w m) (k : Nat) {x : Ent} (h : m[k]? = some x) : Hp M w0 w [x] := by
  refine H.sub ?_
  obtain ⟨l1, l2, rfl⟩ := List.append_of_mem (List.mem_of_getElem? h)
  exact (List.singleton_sublist.2 (by simp))

theorem Sep.fam {w : World} : ∀ {m : Mem} {F : Nat → Prop}, Sep w m F → ∃ Gs : Nat → Nat → Prop, (∀ (i : Nat) (e : Ent), m[i]? = some e → e.on w (Gs i)) ∧ (∀ i k, Gs i k → F k) ∧ ∀ i j k, Gs i k → Gs j k → i = j
  | [], _, _ => ⟨fun _ _ => False, by simp, fun _ _ h => h.elim, fun _ _ _ h => h.elim⟩
  | e :: m, F, ⟨G, h1, h2, h3⟩ => by
    obtain ⟨Gs, g1, g2, g3⟩ := h3.fam
    refine ⟨fun i => match i with | 0 => G | i + 1 => Gs i, ?_, ?_, ?_⟩
    · rintro (_ | i) x hx
      · simp only [List.getElem?_cons_zero, Option.some.injEq] at hx; subst hx; exact h1
      · exact g1 i x (by simpa using hx)
    · rintro (_ | i) k hk
      · exact h2 k hk
      · exact (g2 i k hk).1
    · rintro (_ | i) (_ | j) k hi hj
      · rfl
      · exact absurd hi (g2 j k hj).2
      · exact absurd hj (g2 i k hi).2
      · rw [g3 i j k hi hj]

theorem Sep.ofFam {w : World} {m : Mem} {Gs : Nat → Nat → Prop} (h1 : ∀ (i : Nat) (e : Ent), m[i]? = some e → e.on w (Gs i)) (h3 : ∀ i j k, Gs i k → Gs j k → i = j) :
    ∀ {ks : List Nat} {m' : Mem} {F : Nat → Prop}, ks.Nodup → ks.map (m[·]?) = m'.map some → (∀ i ∈ ks, ∀ k, Gs i k → F k) → Sep w m' F
  | [], [], _, _, _, _ => trivial
  | [], _ :: _, _, _, h, _ => by simp at h
  | _ :: _, [], _, _, h, _ => by simp at h
  | i :: ks, e :: m', F, hn, hm, hF => by
    simp only [List.map_cons, List.cons.injEq] at hm
    simp only [List.nodup_cons] at hn
    refine ⟨Gs i, h1 i e hm.1, hF i (by simp), Sep.ofFam h1 h3 hn.2 hm.2 fun j hj k hk => ⟨hF j (by simp [hj]) k hk, fun hi => ?_⟩⟩
    exact hn.1 (h3 j i k hk hi ▸ hj)

/-- A world that differs in no block. -/
theorem Hp.same {M : Nat → Prop} {w0 w w' : World} {m : Mem} (H : Hp M w0 w m) (h : w'.heap = w.heap) (h1 : w'.os = w.os) (h2 : w'.tape = w.tape) (h3 : w'.output = w.output) : Hp M w0 w' m :=
  ⟨h1.trans H.os, h2.trans H.tape, h3.trans H.output, by rw [h]; exact H.size, fun k hk hm => by rw [h]; exact H.old k hk hm, by rw [h]; exact H.sep.agree fun k _ => by rw [h]⟩

/-- More pieces, on new blocks. -/
theorem Hp.add {M : Nat → Prop} {w0 w w' : World} {m mc : Mem} (H : Hp M w0 w m) (h1 : w'.os = w.os) (h2 : w'.tape = w.tape) (h3 : w'.output = w.output) (hs : w.heap.size ≤ w'.heap.size)
    (hk : ∀ k, k < w.heap.size → w'.heap[k]? = w.heap[k]?) (h : Sep w' mc (fun k => w.heap.size ≤ k ∧ k < w'.heap.size)) : Hp M w0 w' (mc ++ m) := by
  have := H.size
  exact ⟨h1.trans H.os, h2.trans H.tape, h3.trans H.output, by omega, fun k hk' hm => by rw [hk k (by omega)]; exact H.old k hk' hm,
    h.app (H.sep.agree fun k hk' => hk k hk'.1) (fun k hk' hh => by omega) (fun k hk' => ⟨hk'.2, .inl (by omega)⟩) (fun k hk' => ⟨by omega, hk'.2⟩)⟩

/-- A new block. -/
theorem Hp.new {M : Nat → Prop} {w0 w : World} {m : Mem} (H : Hp M w0 w m) (o : Obj) : Hp M w0 { w with heap := w.heap.push o } (.bk w.heap.size o :: m) :=
  H.add (mc := [.bk w.heap.size o]) rfl rfl rfl (by simp) (fun k hk => by simp only [Array.getElem?_push]; rw [if_neg (by omega)])
    ⟨fun k => k = w.heap.size, ⟨by simp, rfl⟩, fun k hk => by subst hk; simp, trivial⟩

/-- What needs no block. -/
theorem Hp.add0 {M : Nat → Prop} {w0 w : World} {m : Mem} (H : Hp M w0 w m) {e : Ent} (h : e.on w no) : Hp M w0 w (e :: m) :=
  ⟨H.os, H.tape, H.output, H.size, H.old, no, h, fun _ hk => hk.elim, H.sep.mono fun _ hk => ⟨hk, fun h => h⟩⟩

/-- A slice that is nil. -/
theorem Hp.nils {M : Nat → Prop} {w0 w : World} {m : Mem} (H : Hp M w0 w m) (e : TypeId) (s : Nat) : Hp M w0 w (.sl none 0 0 [] e s :: m) :=
  H.add0 ⟨World.ownsRow_nil w 0 e s, fun a ha => by cases ha⟩

/-- One piece changes. -/
theorem Hp.upd {M : Nat → Prop} {w0 w : World} {m : Mem} (H : Hp M w0 w m) {k : Nat} {e : Ent} (hk : m[k]? = some e) : ∃ G : Nat → Prop, e.on w G ∧ (∀ j, G j → j < w.heap.size) ∧
    ∀ (w' : World) (e' : Ent) (G' : Nat → Prop), w'.os = w.os → w'.tape = w.tape → w'.output = w.output → w.heap.size ≤ w'.heap.size → (∀ j, j < w.heap.size → ¬ G j → w'.heap[j]? = w.heap[j]?) → e'.on w' G' →
      (∀ j, G' j → G j ∨ (w.heap.size ≤ j ∧ j < w'.heap.size)) → Hp M w0 w' (m.set k e') := by
  obtain ⟨G, g1, g2, g3⟩ := H.sep.at hk
  have hsz := H.size
  refine ⟨G, g1, fun j hj => (g2 j hj).1, fun w' e' G' h1 h2 h3 h4 h5 h6 h7 => ⟨h1.trans H.os, h2.trans H.tape, h3.trans H.output, by omega, fun j hj hM => ?_, ?_⟩⟩
  · rw [h5 j (by omega) fun hg => (g2 j hg).2.elim (fun h => by omega) hM]
    exact H.old j hj hM
  · refine (g3 w' e' G' (fun j hj hg => h5 j hj.1 hg) h6 fun j hj => ?_).mono fun j hj => ?_
    · rcases h7 j hj with h | h
      · exact .inl h
      · exact .inr fun hh => by omega
    · rcases hj with hj | hj
      · exact ⟨by omega, hj.1.2⟩
      · rcases h7 j hj with h | h
        · have := g2 j h; exact ⟨by omega, this.2⟩
        · exact ⟨h.2, .inl (by omega)⟩

/-- A piece is told otherwise. -/
theorem Hp.conv {M : Nat → Prop} {w0 w : World} {m : Mem} (H : Hp M w0 w m) {k : Nat} {e : Ent} (hk : m[k]? = some e) (e' : Ent) (h : ∀ G, e.on w G → e'.on w G) : Hp M w0 w (m.set k e') := by
  obtain ⟨G, g1, g2, g3⟩ := H.upd hk
  exact g3 w e' G rfl rfl rfl (Nat.le_refl _) (fun _ _ _ => rfl) (h G g1) fun j hj => .inl hj

/-- A block is given other contents. -/
theorem Hp.put {M : Nat → Prop} {w0 w w' : World} {m : Mem} (H : Hp M w0 w m) {k : Nat} {b : Nat} {o o' : Obj} (hk : m[k]? = some (.bk b o))
    (h1 : w'.os = w.os) (h2 : w'.tape = w.tape) (h3 : w'.output = w.output) (hs : w'.heap.size = w.heap.size)
    (hb : w'.heap[b]? = some o') (hn : ∀ j, j ≠ b → w'.heap[j]? = w.heap[j]?) : Hp M w0 w' (m.set k (.bk b o')) := by
  obtain ⟨G, g1, g2, g3⟩ := H.upd hk
  exact g3 w' (.bk b o') G h1 h2 h3 (by omega) (fun j _ hj => hn j fun e => hj (e ▸ g1.2)) ⟨hb, g1.2⟩ fun j hj => .inl hj

theorem Hp.ent {M : Nat → Prop} {w0 w : World} {m : Mem} (H : Hp M w0 w m) {k : Nat} {b : Nat} {o : Obj} (hk : m[k]? = some (.bk b o)) : w.heap[b]? = some o := by
  obtain ⟨G, g1, -, -⟩ := H.upd hk
  exact g1.1

/-- Behind a call that changed none of the blocks that were there. -/
theorem Hp.call {M : Nat → Prop} {w0 w w' : World} {m mc : Mem} (H : Hp M w0 w m) (h : Hp no w w' mc) : Hp M w0 w' (mc ++ m) :=
  H.add h.os h.tape h.output h.size (fun k hk => h.old k hk fun h => h) (h.sep.mono fun k hk => ⟨hk.2.elim (fun h => h) (fun h => h.elim), hk.1⟩)

/-! ### What a slice reads as -/

/-- The cells from an address on (nothing is asked of the address where there are no cells). -/
def Rd (w : World) (A : Option Addr) (cs : List Value) : Prop :=
  cs = [] ∨ ∃ b off blk T fr, A = some ⟨b, off, none⟩ ∧ w.heap[b]? = some (.cells blk T fr) ∧ ∀ j, j < cs.length → blk[off + j]? = cs[j]?

theorem Rd.nil (w : World) (A : Option Addr) : Rd w A [] := .inl rfl

theorem Rd.keep {w w' : World} {A : Option Addr} {cs : List Value} (h : Rd w A cs) (k : Keep w w') : Rd w' A cs := by
  rcases h with h | ⟨b, off, blk, T, fr, hA, hb, hc⟩
  · exact Or.inl h
  · exact Or.inr ⟨b, off, blk, T, fr, hA, (k.2 b (lt_of_some hb)).trans hb, hc⟩

theorem Rd.agree {w w' : World} {A : Option Addr} {cs : List Value} (h : Rd w A cs) (k : ∀ a, A = some a → w'.heap[a.block]? = w.heap[a.block]?) : Rd w' A cs := by
  rcases h with h | ⟨b, off, blk, T, fr, hA, hb, hc⟩
  · exact Or.inl h
  · exact Or.inr ⟨b, off, blk, T, fr, hA, (k _ hA).trans hb, hc⟩

theorem Rd.of_ent {M : Nat → Prop} {w0 w : World} {m : Mem} (H : Hp M w0 w m) {k b off n T : Nat} {cs cs' : List Value} (hm : m[k]? = some (.bk b (row cs T)))
    (hc : (cs.drop off).take n = cs') : Rd w (some ⟨b, off, none⟩) cs' := by
  refine Or.inr ⟨b, off, cs.toArray, T, (0, 0), rfl, H.ent hm, fun j hj => ?_⟩
  subst hc
  have hj' : j < n := by simp at hj; omega
  rw [List.getElem?_take, if_pos hj']
  simp

theorem Rd.own {w : World} {A : Option Addr} {n c : Nat} {xs : List Value} {e : TypeId} {s : Nat} (h : w.ownsRow 0 e s (.slice A n c) n xs) : Rd w A xs := by
  obtain ⟨h1, h2⟩ := h
  rcases h2 with ⟨h2, rfl⟩ | ⟨g, cap, cur, h3, h4, h5, h6, h7, h8, h9⟩
  · left; exact List.length_eq_zero_iff.1 (by simpa using h1)
  · right
    simp only [Value.slice.injEq] at h3
    refine ⟨g, 0, cur, e, (0, 0), h3.1, h5, fun j hj => ?_⟩
    rw [← h9, List.getElem?_take, if_pos (by omega)]
    simp

theorem Rd.sl {M : Nat → Prop} {w0 w : World} {m : Mem} (H : Hp M w0 w m) (k : Nat) {A : Option Addr} {n c : Nat} {xs : List Value} {e : TypeId} {s : Nat} (hm : m[k]? = some (.sl A n c xs e s)) : Rd w A xs := by
  obtain ⟨G, g1, -, -⟩ := H.upd hm
  exact Rd.own g1.1

theorem Hp.pr {M : Nat → Prop} {w0 w : World} {m : Mem} (H : Hp M w0 w m) (k : Nat) {φ : World → Prop} (hm : m[k]? = some (.pr φ)) : φ w := by
  obtain ⟨G, g1, -, -⟩ := H.upd hm
  exact g1 w fun _ _ => rfl

/-- A block that a slice of all its cells leads to. -/
theorem Hp.toSl {M : Nat → Prop} {w0 w : World} {m : Mem} (H : Hp M w0 w m) (k : Nat) {b : Nat} {cs : List Value} {e : TypeId} (n s : Nat) (hm : m[k]? = some (.bk b (row cs e))) (hn : cs.length = n * s) (hm' : n ≤ maxLen) :
    Hp M w0 w (m.set k (.sl (some ⟨b, 0, none⟩) n n cs e s)) :=
  H.conv hm _ fun G hG => ⟨⟨hn, .inr ⟨b, n, cs.toArray, rfl, Nat.zero_le _, hG.1, Nat.le_refl _, hm', by simpa using hn, by simp [← hn]⟩⟩, fun a ha => by cases ha; exact hG.2⟩

/-- A slice of the call's own that is not empty: its block. -/
theorem Hp.slAt {M : Nat → Prop} {w0 w : World} {m : Mem} (H : Hp M w0 w m) (k : Nat) {A : Option Addr} {n c : Nat} {xs : List Value} {e : TypeId} {s : Nat} (hm : m[k]? = some (.sl A n c xs e s)) (h0 : 0 < n) :
    ∃ b, A = some ⟨b, 0, none⟩ := by
  obtain ⟨G, g1, -, -⟩ := H.upd hm
  rcases g1.1.2 with ⟨h2, h3⟩ | ⟨g, cap, cur, h3, -⟩
  · omega
  · simp only [Value.slice.injEq] at h3; exact ⟨g, h3.1⟩

theorem Hp.slLen {M : Nat → Prop} {w0 w : World} {m : Mem} (H : Hp M w0 w m) (k : Nat) {A : Option Addr} {n c : Nat} {xs : List Value} {e : TypeId} {s : Nat} (hm : m[k]? = some (.sl A n c xs e s)) : xs.length = n * s ∧ n ≤ c ∧ c ≤ maxLen := by
  obtain ⟨G, g1, -, -⟩ := H.upd hm
  refine ⟨g1.1.1, ?_⟩
  rcases g1.1.2 with ⟨h2, h3⟩ | ⟨g, cap, cur, h3, h4, h5, h6, h7, h8, h9⟩
  · simp only [Value.slice.injEq] at h2; omega
  · simp only [Value.slice.injEq] at h3; omega

/-! ### Code -/

def WN (ro : Option Nat) (P : Program) (N : FN) (c : Code) (Q : Exit → Act → World → Prop) (T : Tab) (w : World) : Prop := At N T w (Code.wpR ro P c Q)
def WC (P : Program) (N : FN) (ops : Array Oper) (Q : Exit → Act → World → Prop) (fl : FL) (L : OT) (T : Tab) (w : World) : Prop := At N T w (wpC P ops Q fl L)

/-- The parts of code. -/
def cl : Code → Code
  | .seq a _ => a
  | .cond _ a _ => a
  | .block _ a => a
  | .loop a => a
  | .scope a => a
  | c => c
def cr : Code → Code
  | .seq _ b => b
  | .cond _ _ b => b
  | c => c
def isSeq : Code → Bool | .seq .. => true | _ => false
def isReg : Code → Bool | .region .. => true | _ => false
def opsOf : Code → Array Oper | .region _ ops _ => ops | _ => #[]
def drawOf : Code → Bool | .region _ _ d => d | _ => false
def condOf : Code → Option Operand | .cond x _ _ => some x | _ => none
def blockOf : Code → Option Nat | .block i _ => some i | _ => none
def isLoop : Code → Bool | .loop _ => true | _ => false
def exitOf : Code → Option Nat | .exit i => some i | _ => none
def isRet : Code → Bool | .ret => true | _ => false
def isSkip : Code → Bool | .skip => true | _ => false

/-- No way out by a panic. -/
def NoPanic (Q : Exit → Act → World → Prop) : Exit → Act → World → Prop
  | .panic _, _, _ => False
  | e, a, w => Q e a w

theorem NoPanic.imp {Q : Exit → Act → World → Prop} : ∀ (e : Exit) (a : Act) (w : World), NoPanic Q e a w → Q e a w := fun e a w h => by
  cases e <;> first | exact h | exact h.elim

/-- What an operation does to memory: 0 nothing, 1 reads, 2 makes new memory, 3 anything. -/
def cls : Op → Nat
  | .load .. => 1
  | .lookup .. => 1
  | .alloc _ | .box .. | .buildSlice .. | .makeSlice .. | .makeMap .. => 2
  | .call c => match c.callee with
    | .builtin b => match b with
      | .len | .cap | .max | .min => 0
      | _ => 3
    | _ => 2
  | .store .. | .mapUpdate .. | .insert .. | .entryStore .. | .panic _ | .go _ | .defer _ | .send .. | .recv .. | .select .. | .next .. | .range .. | .mapEntry .. | .entry .. => 3
  | _ => 0

def clD (dr : Bool) (ops : Array Oper) (ov : List (Nat × Nat)) (i : Nat) : Nat :=
  match ov.lookup i with
  | some c => c
  | none => match ops[i]? with
    | none => 3
    | some o => if 1 < cls o.op && !dr then 3 else cls o.op
def flD (dr : Bool) (ops : Array Oper) (ov : List (Nat × Nat)) : FL := ⟨clD dr ops ov, no, none⟩
def flR (ro : Option Nat) (dr : Bool) (ops : Array Oper) (ov : List (Nat × Nat)) : FL := ⟨clD dr ops ov, no, ro⟩
theorem okT_c (ops : Array Oper) (c : Nat → Nat) (d d' : Nat → Prop) (r r' : Option Nat) : ∀ (t : OT) (b : Bool) (l : Array Bool), okT ops ⟨c, d, r⟩ b l t = okT ops ⟨c, d', r'⟩ b l t
  | .nil, _, _ => rfl
  | .s i t, b, l => by
    have e : ∀ x y, indep ops ⟨c, d, r⟩ x y = indep ops ⟨c, d', r'⟩ x y := fun x y => by unfold indep; rfl
    simp only [okT, okT_c ops c d d' r r' t, e]
  | .br t u, b, l => by simp only [okT, okT_c ops c d d' r r' t, okT_c ops c d d' r r' u]

/-- What follows a first part of code. -/
def SQ (ro : Option Nat) (P : Program) (c : Code) (Q : Exit → Act → World → Prop) : Exit → Act → World → Prop := Exit.then (Code.wpR ro P c Q) Q

section
variable {ro : Option Nat} {P : Program} {N : FN} {Q : Exit → Act → World → Prop} {T : Tab} {w : World}

theorem wn_seq {c : Code} (hc : isSeq c = true) (h : WN ro P N (cl c) (SQ ro P (cr c) Q) T w) : WN ro P N c Q T w := by
  cases c <;> simp [isSeq] at hc
  exact fun a ha => wpIn_seq (h a ha)

theorem wn_skip {c : Code} (hc : isSkip c = true) (h : At N T w (Q .normal)) : WN ro P N c Q T w := by
  cases c <;> simp [isSkip] at hc
  exact fun a ha => wpIn_skip (h a ha)

theorem wn_block {c : Code} (i : Nat) (hc : blockOf c = some i) (h : WN ro P N (cl c) (Exit.inBlock i Q) T w) : WN ro P N c Q T w := by
  cases c <;> simp [blockOf] at hc
  subst hc
  exact fun a ha => wpIn_block (h a ha)

theorem wn_exit {c : Code} (i : Nat) (hc : exitOf c = some i) (h : At N T w (Q (.exit i))) : WN ro P N c Q T w := by
  cases c <;> simp [exitOf] at hc
  subst hc
  exact fun a ha => wpIn_exit (h a ha)

theorem wn_ret {c : Code} (hc : isRet c = true) (h : At N T w (Q .ret)) : WN ro P N c Q T w := by
  cases c <;> simp [isRet] at hc
  exact fun a ha => wpIn_ret (h a ha)

theorem wn_regO {c : Code} (ov : List (Nat × Nat)) (n : Nat) (hc : (isReg c && !drawOf c && noDefer (opsOf c) && (opsOf c).size == n) = true) (h : WC P N (opsOf c) Q (flR ro false (opsOf c) ov) (rng 0 n) T w) : WN ro P N c Q T w := by
  cases c <;> simp [isReg] at hc
  rename_i id ops d
  obtain ⟨⟨hd, hnd⟩, hn⟩ := hc
  have : d = false := by simpa [drawOf] using hd
  subst this
  have hr : ∀ k i, rng i k = ol (List.range' i k) := by
    intro k
    induction k with
    | zero => intro i; rfl
    | succ k ih => intro i; simp [rng, ol, ih, List.range'_succ]
  have hn' : ops.size = n := by simpa [opsOf] using hn
  subst hn'
  refine fun a ha => wpIn_region ?_
  have := h a ha
  rw [hr, ← List.range_eq_range'] at this
  exact wpOps_of_wpC (fl := flR ro false ops ov) hnd _ _ _ this

theorem wn_regD {c : Code} (ov : List (Nat × Nat)) (t : OT)
    (hc : (isReg c && drawOf c && noDefer (opsOf c) && Region.noSelect (opsOf c) && okT (opsOf c) (flD true (opsOf c) ov) false (Array.replicate (opsOf c).size false) t && P.follows .mixedOrders) = true)
    {M : Nat → Prop} {w0 : World} {m : Mem} (H : Hp M w0 w m) (h : ∀ w', Hp M w0 w' m → WC P N (opsOf c) (NoPanic Q) (flR ro true (opsOf c) ov) t T w') : WN ro P N c Q T w := by
  cases c <;> simp [isReg] at hc
  rename_i id ops d
  have hd : d = true := by simpa [drawOf] using hc.1.1.1.1
  subst hd
  intro a ha
  refine wpIn_mono (wp_region_ord (Q := NoPanic Q) (fl := flR ro true ops ov) (t := t) hc.2 ?_ (fun _ _ _ _ _ h => h) (h { w with drawn := w.drawn + 1 } (H.same rfl rfl rfl rfl) a ha)) NoPanic.imp
  simp only [opsOf] at hc
  have e : okT ops (flR ro true ops ov) false (Array.replicate ops.size false) t = okT ops (flD true ops ov) false (Array.replicate ops.size false) t := okT_c ops _ no no ro none t _ _
  rw [e]
  simp [hc.1.1.1.2, hc.1.1.2, hc.1.2]

theorem wn_cond {c : Code} (x : Operand) (b : Bool) (hc : condOf c = some x) (hx : evT T x = some (.bool b)) (h1 : b = true → WN ro P N (cl c) Q T w) (h2 : b = false → WN ro P N (cr c) Q T w) : WN ro P N c Q T w := by
  cases c <;> simp [condOf] at hc
  subst hc
  exact fun a ha => wpIn_cond_split (evT_spec ha hx) (fun hb => h1 hb a ha) (fun hb => h2 hb a ha)

theorem wn_condT {c : Code} (x : Operand) (hc : condOf c = some x) (hx : evT T x = some (.bool true)) (h1 : WN ro P N (cl c) Q T w) : WN ro P N c Q T w :=
  wn_cond x true hc hx (fun _ => h1) (fun h => by cases h)
theorem wn_condF {c : Code} (x : Operand) (hc : condOf c = some x) (hx : evT T x = some (.bool false)) (h2 : WN ro P N (cr c) Q T w) : WN ro P N c Q T w :=
  wn_cond x false hc hx (fun h => by cases h) (fun _ => h2)

/-- A round's end: a state y, nearer to the end. -/
def RE (N : FN) {α : Type} (Tf : α → Tab) (J : α → World → Prop) (mu : α → Nat) (m0 : Nat) : Act → World → Prop := fun a' w'' => ∃ y, Tm N (Tf y) a' ∧ J y w'' ∧ mu y < m0

/-- A loop, of whose head each frame tells some state. -/
theorem wn_loopS {c : Code} {α : Type} (Tf : α → Tab) (J : α → World → Prop) (mu : α → Nat) (hc : isLoop c = true) (h0 : ∀ a, Tm N T a → ∃ x0, Tm N (Tf x0) a ∧ J x0 w)
    (h : ∀ x w', J x w' → WN ro P N (cl c) (Exit.then (RE N Tf J mu (mu x)) Q) (Tf x) w') : WN ro P N c Q T w := by
  cases c <;> simp [isLoop] at hc
  rename_i body
  intro a ha b k cs hro hb hr
  have key : ∀ n x a w, mu x = n → Tm N (Tf x) a → J x w →
      ∃ e a' w', Q e a' w' ∧ ArrivesIn (Machine.fenced P (FR ro)) P (lone (b.atR a (.code body :: .inLoop body :: k)) cs w) b k cs e a' w' := by
    intro n
    induction n using Nat.strongRecOn with
    | _ n ih =>
      intro x a w hn hT hJ
      obtain ⟨e, a₁, w₁, hq, harr⟩ := h x w hJ a hT b (.inLoop body :: k) cs hro hb hr
      cases e with
      | normal =>
        obtain ⟨y, hT₁, hJ₁, hlt⟩ := hq
        obtain ⟨e₂, a₂, w₂, hq₂, harr₂⟩ := ih (mu y) (hn ▸ hlt) y a₁ w₁ rfl hT₁ hJ₁
        exact ⟨e₂, a₂, w₂, hq₂, .of_steps (StepsIn.trans harr (.one (fenced_calm hb hr rfl) stepR_inLoop)) harr₂⟩
      | exit id => exact ⟨_, a₁, w₁, hq, .pass (x := .inLoop body) rfl (fun _ _ => .inl (by simp)) harr⟩
      | goto l => exact ⟨_, a₁, w₁, hq, .pass (x := .inLoop body) rfl (fun _ _ => .inl (by simp)) harr⟩
      | ret => exact ⟨_, a₁, w₁, hq, .pass (x := .inLoop body) rfl (fun _ _ => .inl (by simp)) harr⟩
      | panic ch => exact ⟨_, a₁, w₁, hq, .pass (x := .inLoop body) rfl (fun _ _ => .inl (by simp)) harr⟩
      | outgrown => exact ⟨_, a₁, w₁, hq, .pass (x := .inLoop body) rfl (fun _ _ => .inl (by simp)) harr⟩
  obtain ⟨x0, hx0, hJ0⟩ := h0 a ha
  obtain ⟨e, a', w', hq, harr⟩ := key _ x0 a w rfl hx0 hJ0
  exact ⟨e, a', w', hq, .of_steps (.one (fenced_calm hb hr rfl) stepR_loop) harr⟩

/-! ### Ways on -/
theorem n_sq {c : Code} (h : WN ro P N c Q T w) : At N T w (SQ ro P c Q .normal) := h
theorem e_sq {i : Nat} {c : Code} (h : At N T w (Q (.exit i))) : At N T w (SQ ro P c Q (.exit i)) := h
theorem r_sq {c : Code} (h : At N T w (Q .ret)) : At N T w (SQ ro P c Q .ret) := h
theorem n_blk {i : Nat} (h : At N T w (Q .normal)) : At N T w (Exit.inBlock i Q .normal) := h
theorem n_np {Q : Exit → Act → World → Prop} (h : At N T w (Q .normal)) : At N T w (NoPanic Q .normal) := h
theorem e_then {i : Nat} {K : Act → World → Prop} (h : At N T w (Q (.exit i))) : At N T w (Exit.then K Q (.exit i)) := h
theorem e_np {i : Nat} (h : At N T w (Q (.exit i))) : At N T w (NoPanic Q (.exit i)) := h
theorem e_blk {i : Nat} (h : At N T w (Q .normal)) : At N T w (Exit.inBlock i Q (.exit i)) := fun a ha => by
  simp only [Exit.inBlock, if_true]; exact h a ha
theorem e_blkn {i j : Nat} (hne : (j == i) = false) (h : At N T w (Q (.exit j))) : At N T w (Exit.inBlock i Q (.exit j)) := fun a ha => by
  simp only [Exit.inBlock]; rw [if_neg (by simpa using hne)]; exact h a ha
theorem r_then {K : Act → World → Prop} (h : At N T w (Q .ret)) : At N T w (Exit.then K Q .ret) := h
theorem r_blk {i : Nat} (h : At N T w (Q .ret)) : At N T w (Exit.inBlock i Q .ret) := h
theorem r_np (h : At N T w (Q .ret)) : At N T w (NoPanic Q .ret) := h

end

/-! ### Operations -/
section
variable {P : Program} {N : FN} {ops : Array Oper} {Q : Exit → Act → World → Prop} {fl : FL} {T : Tab} {w : World} {i : Nat} {rest : OT}

theorem wc_nil {L : OT} (hL : L = .nil) (h : At N T w (Q .normal)) : WC P N ops Q fl L T w := by subst hL; exact h
theorem wc_br {L t u : OT} (hL : L = .br t u) (h1 : WC P N ops Q fl t T w) (h2 : WC P N ops Q fl u T w) : WC P N ops Q fl L T w := by subst hL; exact fun a ha => ⟨h1 a ha, h2 a ha⟩

/-- The operation at hand, if it is wanted. -/
def opT (N : Nat) (ops : Array Oper) (T : Tab) (i : Nat) : Option Oper :=
  match ops[i]? with
  | none => none
  | some o => if dstOk N o.dst && wantT T ops o == some true then some o else none

theorem opT_spec {a : Act} (ha : Tm N T a) {o : Oper} (h : opT N ops T i = some o) : ops[i]? = some o ∧ dstOk N o.dst = true ∧ Region.wanted o (yielded ops a.tmps) = true := by
  unfold opT at h
  split at h
  · cases h
  · rename_i o' ho
    split at h
    · rename_i hc
      simp only [Bool.and_eq_true, beq_iff_eq] at hc
      simp only [Option.some.injEq] at h; subst h
      exact ⟨ho, hc.1, wantT_spec ha hc.2⟩
    · cases h

/-- An operation that is not wanted. -/
def skT (N : Nat) (ops : Array Oper) (T : Tab) (i : Nat) : Option (Option Nat) :=
  match ops[i]? with
  | none => none
  | some o => if dstOk N o.dst && wantT T ops o == some false then some o.dst else none

theorem wc_skip (d : Option Nat) (hop : skT N ops T i = some d) (h : WC P N ops Q fl rest (putT T d undef) w) : WC P N ops Q fl (.s i rest) T w := fun a ha => by
  unfold skT at hop
  split at hop
  · cases hop
  · rename_i o ho
    split at hop
    · rename_i hc
      simp only [Bool.and_eq_true, beq_iff_eq] at hc
      simp only [Option.some.injEq] at hop; subst hop
      have hw := wantT_spec ha hc.2
      have hn := h _ (ha.putT hc.1 undef)
      simp only [wpC, ho]
      split
      · exact ⟨undef, Or.inr ⟨hw, rfl⟩, hn⟩
      · unfold wpOpR
        simp only [ho, hw, Bool.false_eq_true, if_false]
        exact ⟨fun _ => KeepD.refl fl.d w, hn⟩
    · cases hop

/-- An operation that yields a value and leaves memory alone. -/
theorem wc_val {o : Oper} {v : Value} (ho : opT N ops T i = some o) (hf : Nat.ble (fl i) 1 = true) (hv : ∀ a w', Tm N T a → In fl.d (fl i) w w' → (execOp a.eval o).run P w' = .ok (.value v) w')
    (h : WC P N ops Q fl rest (putT T o.dst v) w) : WC P N ops Q fl (.s i rest) T w := fun a ha => by
  obtain ⟨h1, h2, h3⟩ := opT_spec ha ho
  exact wpC_quiet h1 (Nat.le_of_ble_eq_true hf) (Or.inl ⟨h3, fun w' hw' => hv a w' ha hw'⟩) (h _ (ha.putT h2 v))

/-- An operation that does something to memory. -/
theorem wc_heap {o : Oper} (ho : opT N ops T i = some o) (hf : Nat.ble 2 (fl i) = true)
    (hv : ∀ a, Tm N T a → operR fl.ro P o a w (fun a' w' => (fl i ≤ 2 → KeepD fl.d w w') ∧ wpC P ops Q fl rest a' w') Q) : WC P N ops Q fl (.s i rest) T w := fun a ha => by
  obtain ⟨h1, h2, h3⟩ := opT_spec ha ho
  have hf' := Nat.le_of_ble_eq_true hf
  simp only [wpC, h1]
  rw [if_neg (by omega)]
  unfold wpOpR
  simp only [h1, h3, if_true]
  exact hv a ha

/-! #### New blocks -/
/-! #### Loads -/
def aggB (P : Program) (ty : TypeId) : Option Bool := pureRun P (isAgg ty)
def sizeB (P : Program) (ty : TypeId) : Option Nat := pureRun P (sizeOf ty)

/-- A variable's value, now and as long as the blocks stay. -/
def Ld (P : Program) (d : Nat → Prop) (w : World) (ty : TypeId) (b off : Nat) (v : Value) : Prop := ∀ w', KeepD d w w' → (loadVar ty ⟨b, off, none⟩).run P w' = .ok v w'

theorem cell_blk {w : World} {b off : Nat} {blk : Array Value} {T : TypeId} {fr : Nat × Nat} (hb : w.heap[b]? = some (.cells blk T fr)) : w.cell? ⟨b, off, none⟩ = blk[off]? := by
  simp [World.cell?, hb]

theorem Ld.one {d : Nat → Prop} {w : World} {ty b off : Nat} {blk : Array Value} {Tb : TypeId} {fr : Nat × Nat} {v : Value} (hb : w.heap[b]? = some (.cells blk Tb fr)) (hty : aggB P ty = some false)
    (hv : blk[off]? = some v) (hnd : ¬ d b := by exact fun h => h) : Ld P d w ty b off v := by
  intro w' k
  have hb' := (k.2 b (lt_of_some hb) hnd).trans hb
  unfold loadVar
  rw [Sem.run_bind, pureRun_spec hty w']
  simp only [Result.andThen_ok, Bool.false_eq_true, if_false]
  simp [load, Sem.run, cell_blk hb', hv]

theorem Ld.agg {d : Nat → Prop} {w : World} {ty b off n : Nat} {blk : Array Value} {Tb : TypeId} {fr : Nat × Nat} {vs : List Value} (hb : w.heap[b]? = some (.cells blk Tb fr)) (hty : aggB P ty = some true)
    (hn : sizeB P ty = some n) (hl : vs.length = n) (hv : ∀ j, j < n → blk[off + j]? = vs[j]?) (hnd : ¬ d b := by exact fun h => h) : Ld P d w ty b off (.agg vs.toArray) := by
  intro w' k
  have hb' := (k.2 b (lt_of_some hb) hnd).trans hb
  subst hl
  have hlc := run_loadCells_list (P := P) w' ⟨b, off, none⟩ vs (fun j v hj => by
    have hadd : (⟨b, off, none⟩ : Addr).add j = ⟨b, off + j, none⟩ := by unfold Addr.add; split <;> simp_all
    rw [hadd, cell_blk hb']
    rw [hv j (List.getElem?_eq_some_iff.1 hj).1]
    exact hj)
  unfold loadVar
  rw [Sem.run_bind, pureRun_spec hty w']
  simp only [Result.andThen_ok, if_true]
  simp only [Sem.run_bind, pureRun_spec hn w', Result.andThen_ok, hlc, Sem.run_pure]

def ldT (T : Tab) (o : Oper) : Option (Option Nat × TypeId × Addr) :=
  match o.op with
  | .load ty x => match evT T x with
    | some (.pointer (some a)) => some (o.dst, ty, a)
    | _ => none
  | _ => none

/-! #### Stores -/
def stT (T : Tab) (o : Oper) : Option (TypeId × Addr × Value) :=
  match o.op, o.dst with
  | .store ty x y, none => match evT T x, evT T y with
    | some (.pointer (some a)), some v => some (ty, a, v)
    | _, _ => none
  | _, _ => none

/-- Cells written over. -/
def blit (cs : List Value) (off : Nat) (vs : List Value) : List Value := cs.take off ++ vs ++ cs.drop (off + vs.length)

def flat (vs : List Value) : Bool := vs.all Value.oneCell'

theorem run_storeVar {M : Nat → Prop} {w0 : World} {m : Mem} (H : Hp M w0 w m) (k : Nat) {ty b off Tb : Nat} {cs : List Value} {v : Value} (hm : m[k]? = some (.bk b (row cs Tb)))
    (hn : sizeB P ty = some v.cells.size) (hl : off + v.cells.size ≤ cs.length) (hfl : ∀ u ∈ v.cells.toList, u.oneCell' = true) :
    ∃ w', (storeVar ty ⟨b, off, none⟩ v).run P w = .ok () w' ∧ Hp M w0 w' (m.set k (.bk b (row (blit cs off v.cells.toList) Tb))) := by
  have hb := H.ent hm
  have hst := run_storeCells_at P b off Tb v.cells.toList 0 cs.toArray w hb (by simpa using hl) hfl
  simp only [Nat.add_zero] at hst
  refine ⟨w.setRow b (cs.take off ++ v.cells.toList ++ cs.drop (off + v.cells.toList.length)).toArray, ?_, H.put (o' := row (blit cs off v.cells.toList) Tb) hm rfl rfl rfl (size_setRow _ _ _) ?_ (fun j hj => ?_)⟩
  · unfold storeVar
    rw [Sem.run_bind, pureRun_spec hn w]
    simp only [Result.andThen_ok, ne_eq, not_true_eq_false, if_false]
    simpa using hst
  · have := setRow_heap w b cs.toArray (blit cs off v.cells.toList).toArray Tb (0, 0) hb
    simpa [blit, row] using this
  · simp [World.setRow, Array.getElem?_modify, Ne.symm hj]

theorem wc_st {M : Nat → Prop} {w0 : World} {m : Mem} (H : Hp M w0 w m) (k : Nat) {b off Tb : Nat} {cs cs' vs : List Value} (ty : TypeId) (v : Value)
    (n : Nat) (hop' : ((opT N ops T i).bind (stT T), fl i, sizeB P ty) = (some (ty, ⟨b, off, none⟩, v), 3, some n)) (hvs : v.cells = vs.toArray) (hm : m[k]? = some (.bk b (row cs Tb))) (hn1 : vs.length = n)
    (hl : off + n ≤ cs.length) (hfl : ∀ u ∈ vs, u.oneCell' = true) (hcs : blit cs off vs = cs')
    (h : ∀ w', Hp M w0 w' (m.set k (.bk b (row cs' Tb))) → WC P N ops Q fl rest T w') : WC P N ops Q fl (.s i rest) T w := by
  simp only [Prod.mk.injEq] at hop'
  obtain ⟨hop, hf, hn0⟩ := hop'
  have hsz : v.cells.size = n := by rw [hvs]; simpa using hn1
  have hls : v.cells.toList = vs := by rw [hvs]
  have hn : sizeB P ty = some v.cells.size := by rw [hsz]; exact hn0
  obtain ⟨o, ho, h2⟩ := Option.bind_eq_some_iff.1 hop
  unfold stT at h2
  split at h2
  · rename_i ty' x y hox hdst
    split at h2
    · rename_i a' v' hx hy
      simp only [Option.some.injEq, Prod.mk.injEq] at h2
      obtain ⟨rfl, rfl, rfl⟩ := h2
      refine wc_heap ho (by rw [hf]; rfl) fun a ha => ?_
      obtain ⟨w', hw, H'⟩ := run_storeVar (P := P) H k hm hn (by rw [hsz]; exact hl) (by rw [hls]; exact hfl)
      rw [hls] at H'
      have hrun : (execOp a.eval o).run P w = .ok .skip w' := by
        unfold execOp
        simp only [hox, evT_spec ha hx, evT_spec ha hy, Instr.storeAt, Instr.sureAddr, Sem.run_bind, Sem.run_pure, Result.andThen_ok, hw]
      unfold operR
      rw [hrun]
      subst hcs
      refine ⟨fun hh => by omega, ?_⟩
      rw [hdst]
      exact h w' H' _ ha
    · cases h2
  · cases h2

end
section
variable {P : Program} {N : FN} {ops : Array Oper} {Q : Exit → Act → World → Prop} {fl : FL} {T : Tab} {w : World} {i : Nat} {rest : OT}
/-! #### Places -/
theorem run_underlying' {t : TypeId} {u : TypeDesc} (h : P.underlying t = some u) (w : World) : (underlying t).run P w = .ok u w := by
  simp [underlying, program, Sem.run_bind, Sem.run, h, pure]

/-- Where a slice of a slice begins. -/
def slA (A : Option Addr) (l m s : Nat) : Option Addr := if m = l then A else A.map (·.add (l * s))

theorem run_sliceBound {x : Value} {k : IntKind} {n : Int} (hx : x = .int k n) (y : Nat) (c : BoundsCode) (h0 : 0 ≤ n) (h1 : n ≤ y) (w : World) : (Instr.sliceBound x y c).run P w = .ok n.toNat w := by
  subst hx
  simp only [Instr.sliceBound, asIntOf, Sem.run_bind, Sem.run_pure, Result.andThen_ok, if_pos (And.intro h0 h1)]

theorem run_sliceBounds {isS : Bool} {len cap : Nat} {lo hi mx : Option Value} {l h m : Option Int} (hl : ∀ v, lo = some v → ∃ k n, v = .int k n ∧ l = some n) (hl' : lo = none → l = none)
    (hh : ∀ v, hi = some v → ∃ k n, v = .int k n ∧ h = some n) (hh' : hi = none → h = none) (hm : ∀ v, mx = some v → ∃ k n, v = .int k n ∧ m = some n) (hm' : mx = none → m = none)
    (hmh : m.isSome = true → h.isSome = true)
    (b0 : 0 ≤ l.getD 0) (b1 : l.getD 0 ≤ h.getD len) (b2 : h.getD len ≤ m.getD cap) (b3 : m.getD cap ≤ cap) (w : World) :
    (Instr.sliceBounds isS len cap lo hi mx).run P w = .ok ((l.getD 0).toNat, (h.getD len).toNat, (m.getD cap).toNat) w := by
  have e1 : ∀ n : Nat, ((n : Int)).toNat = n := fun n => by simp
  unfold Instr.sliceBounds
  cases mx with
  | none =>
    have := hm' rfl; subst this
    cases hi with
    | none =>
      have := hh' rfl; subst this
      cases lo with
      | none => have := hl' rfl; subst this; simp
      | some v =>
        obtain ⟨k, n, rfl, rfl⟩ := hl v rfl
        simp only [Option.getD_some, Option.getD_none] at *
        simp [run_sliceBound rfl len _ b0 b1]
    | some u =>
      obtain ⟨k2, n2, rfl, rfl⟩ := hh u rfl
      simp only [Option.getD_some, Option.getD_none] at *
      have hb := fun c => run_sliceBound (P := P) (x := .int k2 n2) rfl cap c (by omega) b2 w
      cases lo with
      | none =>
        have := hl' rfl; subst this
        simp [hb]
      | some v =>
        obtain ⟨k, n, rfl, rfl⟩ := hl v rfl
        simp only [Option.getD_some] at *
        simp [hb, run_sliceBound (P := P) (x := .int k n) rfl n2.toNat _ b0 (by omega)]
  | some q =>
    obtain ⟨k3, n3, rfl, rfl⟩ := hm q rfl
    cases hi with
    | none =>
      have := hh' rfl; subst this
      simp at hmh
    | some u =>
      obtain ⟨k2, n2, rfl, rfl⟩ := hh u rfl
      simp only [Option.getD_some] at *
      have ha := fun c => run_sliceBound (P := P) (x := .int k3 n3) rfl cap c (by omega) b3 w
      have hb := fun c => run_sliceBound (P := P) (x := .int k2 n2) rfl n3.toNat c (by omega) (by omega) w
      cases lo with
      | none =>
        have := hl' rfl; subst this
        simp [ha, hb]
      | some v =>
        obtain ⟨k, n, rfl, rfl⟩ := hl v rfl
        simp only [Option.getD_some] at *
        simp [ha, hb, run_sliceBound (P := P) (x := .int k n) rfl n2.toNat _ b0 (by omega)]

theorem slA_zero (A : Option Addr) (m s : Nat) : slA A 0 m s = A := by
  unfold slA
  split
  · rfl
  · cases A <;> simp [Addr.add]

theorem slA_some {b off l m s o' : Nat} (hne : l < m) (ho : off + l * s = o') : slA (some ⟨b, off, none⟩) l m s = some ⟨b, o', none⟩ := by
  subst ho
  unfold slA
  rw [if_neg (by omega)]
  simp only [Option.map_some, Addr.add]
  split
  · rename_i h; simp [h]
  · rfl

theorem Rd.slA {w : World} {A : Option Addr} {cs cs' : List Value} (h : Rd w A cs) {l m s k : Nat} (hm : l ≤ m) (hc : (cs.drop (l * s)).take k = cs') (hz : l = m → cs' = []) : Rd w (slA A l m s) cs' := by
  by_cases e : l = m
  · exact Or.inl (hz e)
  · by_cases hn : cs' = []
    · exact Or.inl hn
    rcases h with h | ⟨b, off, blk, T, fr, hA, hb, hcc⟩
    · subst h; simp at hc; exact absurd hc hn
    · subst hA
      refine Or.inr ⟨b, off + l * s, blk, T, fr, slA_some (by omega) rfl, hb, fun j hj => ?_⟩
      subst hc
      simp at hj
      rw [List.getElem?_take, if_pos (by omega), List.getElem?_drop, Nat.add_assoc, hcc _ (by omega)]

/-! #### Arithmetic that may fail -/
def shlV (k : IntKind) (a n : Int) : Int := k.wrap (a * 2 ^ (min n.toNat k.bits))
def shrV (k : IntKind) (a n : Int) : Int := a.fdiv (2 ^ (min n.toNat k.bits))

/-! #### The ends -/
def RV (P : Program) (T : Tab) (w : World) : ResultVar → Value → Prop
  | .tmp t, v => look T t = some v
  | .cell t ty, v => ∃ b off, look T t = some (.pointer (some ⟨b, off, none⟩)) ∧ Ld P no w ty b off v

/-- A result, as it is read. -/
def resG (tmps : Array Value) : ResultVar → Sem Value
  | .tmp t => pure (tmps.getD t undef)
  | .cell a t => do loadVar t (← asAddr (tmps.getD a undef))

theorem results_eq (fn : Func) (tmps : Array Value) : results fn tmps = (do
    let vs ← fn.results.mapM (resG tmps)
    pure (if h : vs.size = 1 then vs[0] else .tuple vs)) := by
  unfold results
  congr 1

theorem RV.run {a : Act} (ha : Tm N T a) {r : ResultVar} {v : Value} (h : RV P T w r v) : (resG a.tmps r).run P w = .ok v w := by
  cases r with
  | tmp t => have := ha.2.2 t v h; simp [resG, this]
  | cell t ty =>
    obtain ⟨b, off, hl, hld⟩ := h
    have := ha.2.2 t _ hl
    simp [resG, this, asAddr, hld w (KeepD.refl no w)]

theorem res1 {fn : Func} {r : ResultVar} {v : Value} (hr : fn.results = #[r]) (h1 : RV P T w r v) : ∀ a, Tm N T a → (results fn a.tmps).run P w = .ok v w := by
  intro a ha
  have hrun : (results fn a.tmps).run P w = .ok v w := by
    have := RV.run ha h1
    rw [results_eq, hr]
    simp [*]
  exact hrun

theorem res0 {fn : Func} (hr : fn.results = #[]) : ∀ a, Tm N T a → (results fn a.tmps).run P w = .ok (.tuple #[]) w := by
  intro a ha
  have hrun : (results fn a.tmps).run P w = .ok (.tuple #[]) w := by
    rw [results_eq, hr]
    simp
  exact hrun

theorem res2 {fn : Func} {r1 r2 : ResultVar} {v1 v2 : Value} (hr : fn.results = #[r1, r2]) (h1 : RV P T w r1 v1) (h2 : RV P T w r2 v2) : ∀ a, Tm N T a → (results fn a.tmps).run P w = .ok (.tuple #[v1, v2]) w := by
  intro a ha
  have hrun : (results fn a.tmps).run P w = .ok (.tuple #[v1, v2]) w := by
    have q1 := RV.run ha h1
    have q2 := RV.run ha h2
    rw [results_eq, hr]
    simp [*]
  exact hrun

theorem res3 {fn : Func} {r1 r2 r3 : ResultVar} {v1 v2 v3 : Value} (hr : fn.results = #[r1, r2, r3]) (h1 : RV P T w r1 v1) (h2 : RV P T w r2 v2)
    (h3 : RV P T w r3 v3) : ∀ a, Tm N T a → (results fn a.tmps).run P w = .ok (.tuple #[v1, v2, v3]) w := by
  intro a ha
  have hrun : (results fn a.tmps).run P w = .ok (.tuple #[v1, v2, v3]) w := by
    have q1 := RV.run ha h1
    have q2 := RV.run ha h2
    have q3 := RV.run ha h3
    rw [results_eq, hr]
    simp [*]
  exact hrun

theorem res4 {fn : Func} {r1 r2 r3 r4 : ResultVar} {v1 v2 v3 v4 : Value} (hr : fn.results = #[r1, r2, r3, r4]) (h1 : RV P T w r1 v1) (h2 : RV P T w r2 v2)
    (h3 : RV P T w r3 v3) (h4 : RV P T w r4 v4) : ∀ a, Tm N T a → (results fn a.tmps).run P w = .ok (.tuple #[v1, v2, v3, v4]) w := by
  intro a ha
  have hrun : (results fn a.tmps).run P w = .ok (.tuple #[v1, v2, v3, v4]) w := by
    have q1 := RV.run ha h1
    have q2 := RV.run ha h2
    have q3 := RV.run ha h3
    have q4 := RV.run ha h4
    rw [results_eq, hr]
    simp [*]
  exact hrun

def argTab (args : List Value) : Nat → Tab
  | i => match args with
    | [] => []
    | v :: r => (i, v) :: argTab r (i + 1)

theorem argTab_spec : ∀ (args : List Value) (i t : Nat) (v : Value), look (argTab args i) t = some v → i ≤ t ∧ args[t - i]? = some v
  | [], i, t, v, h => by simp [argTab, look] at h
  | u :: r, i, t, v, h => by
    unfold argTab at h
    simp only [look] at h
    by_cases e : i = t
    · subst e; simp at h; subst h; simp
    · rw [if_neg (by simpa using e)] at h
      have := argTab_spec r (i + 1) t v h
      refine ⟨by omega, ?_⟩
      have hh : t - i = (t - (i + 1)) + 1 := by omega
      rw [hh, List.getElem?_cons_succ]
      exact this.2

theorem enter {f : FuncId} {fn : Func} {c : Code} {args : List Value} {R : Ending → World → Prop} (hf : P.funcs[f]? = some fn) (hb : fn.body = some c) (ha : args.length ≤ fn.ntmps)
    (h : WN none P ⟨fn.ntmps, []⟩ c (bodyPost P fn R) (argTab args 0) w) : Calls P f args.toArray w R := by
  refine Calls.ofR (ro := none) (n := 0) (callsIn_of_wp hf hb trivial (h _ ⟨rfl, ?_, fun t v ht => ?_⟩) rfl)
  · simp; omega
  · obtain ⟨_, h2⟩ := argTab_spec args 0 t v ht
    simp only [Nat.sub_zero] at h2
    rw [Array.getElem?_append_left (by simpa using (List.getElem?_eq_some_iff.1 h2).1)]
    simpa using h2

end

/-! ### Numbers -/
/-- Cells of whole numbers. -/
def iv (k : IntKind) (l : List Int) : List Value := l.map (Value.int k)
theorem iv_length (k : IntKind) (l : List Int) : (iv k l).length = l.length := by simp [iv]
theorem iv_get {k : IntKind} {l : List Int} {j : Nat} (h : j < l.length) : (iv k l)[j]? = some (.int k (l.getD j 0)) := by
  simp [iv, List.getD_eq_getElem?_getD, h]
theorem iv_set (k : IntKind) (l : List Int) (j : Nat) (x : Int) (h : j < l.length) : blit (iv k l) j [Value.int k x] = iv k (l.set j x) := by
  unfold blit iv
  rw [List.set_eq_take_append_cons_drop, if_pos h]
  simp [List.map_take, List.map_drop]
theorem iv_flat (k : IntKind) (l : List Int) : ∀ u ∈ iv k l, u.oneCell' = true := by
  intro u hu
  obtain ⟨n, _, rfl⟩ := List.mem_map.1 hu
  rfl
def bnd (k : IntKind) (a b : Int) : Int := k.wrap ((BitVec.ofInt k.bits a &&& BitVec.ofInt k.bits b).toNat : Int)
def bor (k : IntKind) (a b : Int) : Int := k.wrap ((BitVec.ofInt k.bits a ||| BitVec.ofInt k.bits b).toNat : Int)
def bxr (k : IntKind) (a b : Int) : Int := k.wrap ((BitVec.ofInt k.bits a ^^^ BitVec.ofInt k.bits b).toNat : Int)
def bnt (k : IntKind) (a b : Int) : Int := k.wrap ((BitVec.ofInt k.bits a &&& ~~~ BitVec.ofInt k.bits b).toNat : Int)

/-! ### What is the same -/
section
variable {P : Program}
/-- Two values of a type compare as b says, d levels deep. -/
def EqV (P : Program) (d : Nat) (t : TypeId) (x y : Value) (b : Bool) : Prop := ∀ (D : Nat) (w : World), (Op.equalIn (D + d) t x y).run P w = .ok b w

theorem EqV.int {t : TypeId} {k k' : IntKind} (a b : Int) (h : P.underlying t = some (.int k')) : EqV P 1 t (.int k a) (.int k b) (decide (a = b)) := by
  intro D w
  rw [run_equalIn_int w D t k k' a b h]
  congr 1

theorem run_part_iv {e : TypeId} (hty : aggB P e = some false) {cs : List Value} {j : Nat} {v : Value} (h : cs[j]? = some v) (w : World) : (part e cs.toArray j).run P w = .ok v w := by
  unfold part
  rw [Sem.run_bind, pureRun_spec hty w]
  simp [h]

theorem EqV.arr {t e n : Nat} {k k' : IntKind} {i : TypeInfo} (hu : P.underlying t = some (.array n e)) (he : P.underlying e = some (.int k')) (hi : P.info? e = some i) (hs : P.cellsOf e = 1) (hg : aggB P e = some false)
    (xs ys : List Int) (hx : xs.length = n) (hy : ys.length = n) : EqV P 2 t (.agg (iv k xs).toArray) (.agg (iv k ys).toArray) (decide (xs = ys)) := by
  intro D w
  have key : ∀ m j, j + m = n → (Op.eqItems (D + 1) e 1 (iv k xs).toArray (iv k ys).toArray (List.range' j m)).run P w = .ok (decide (xs.drop j = ys.drop j)) w := by
    intro m
    induction m with
    | zero =>
      intro j hj
      rw [List.drop_eq_nil_of_le (by omega), List.drop_eq_nil_of_le (by omega)]
      simp [Op.eqItems]
    | succ m ih =>
      intro j hj
      have h1 : (iv k xs)[j * 1]? = some (.int k (xs.getD j 0)) := by rw [Nat.mul_one]; exact iv_get (by omega)
      have h2 : (iv k ys)[j * 1]? = some (.int k (ys.getD j 0)) := by rw [Nat.mul_one]; exact iv_get (by omega)
      rw [List.range'_succ]
      simp only [Op.eqItems, Sem.run_bind, run_part_iv hg h1, run_part_iv hg h2, Result.andThen_ok, run_equalIn_int w D e k k' _ _ he]
      have d1 : xs.drop j = xs.getD j 0 :: xs.drop (j + 1) := by
        rw [List.drop_eq_getElem_cons (by omega)]; simp [List.getD_eq_getElem?_getD, show j < xs.length by omega]
      have d2 : ys.drop j = ys.getD j 0 :: ys.drop (j + 1) := by
        rw [List.drop_eq_getElem_cons (by omega)]; simp [List.getD_eq_getElem?_getD, show j < ys.length by omega]
      rw [d1, d2]
      by_cases e : xs.getD j 0 = ys.getD j 0
      · rw [e]
        simp [ih (j + 1) (by omega)]
      · have : (xs.getD j 0 == ys.getD j 0) = false := by simpa using e
        rw [this]
        simp
        intro h; exact absurd (by simpa [List.getD_eq_getElem?_getD] using h) e
  have := key n 0 (by omega)
  rw [show D + 2 = (D + 1) + 1 from rfl, run_equalIn_array w (D + 1) _ _ hu hi, hs, List.range_eq_range', this]
  simp

variable {N : FN} {ops : Array Oper} {Q : Exit → Act → World → Prop} {fl : FL} {T : Tab} {w : World} {i : Nat} {rest : OT}

/-- An array of whole numbers of n places. -/
def arrB (P : Program) (t n : Nat) : Bool := match P.underlying t with
  | some (.array m e) => Nat.beq m n && (match P.underlying e with
    | some (.int _) => true
    | _ => false) && (P.info? e).isSome && Nat.beq (P.cellsOf e) 1 && (match aggB P e with
    | some b => !b
    | none => false)
  | _ => false
theorem EqV.arrC {t n : Nat} {k : IntKind} (h : arrB P t n = true) (xs ys : List Int) (hx : xs.length = n) (hy : ys.length = n) : EqV P 2 t (.agg (iv k xs).toArray) (.agg (iv k ys).toArray) (decide (xs = ys)) := by
  unfold arrB at h
  split at h
  · rename_i m e hu
    simp only [Bool.and_eq_true] at h
    obtain ⟨⟨⟨⟨h1, h2⟩, h3⟩, h4⟩, h5⟩ := h
    have h1 := Nat.eq_of_beq_eq_true h1
    have h4 := Nat.eq_of_beq_eq_true h4
    subst h1
    split at h2
    · rename_i k' he
      obtain ⟨i, hi⟩ := Option.isSome_iff_exists.1 h3
      split at h5
      · rename_i b hb
        cases b
        · exact EqV.arr hu he hi h4 hb xs ys hx hy
        · simp at h5
      · simp at h5
    · simp at h2
  · simp at h
/-! ### A slice that came in -/
theorem Rd.at {w : World} {A : Option Addr} {cs : List Value} (h : Rd w A cs) (hne : cs ≠ []) : ∃ b off, A = some ⟨b, off, none⟩ ∧
    (∀ ty j v, aggB P ty = some false → cs[j]? = some v → Ld P no w ty b (off + j) v) ∧
    (∀ ty n j vs, aggB P ty = some true → sizeB P ty = some n → j + n ≤ cs.length → (cs.drop j).take n = vs → Ld P no w ty b (off + j) (.agg vs.toArray)) := by
  rcases h with h | ⟨b, off, blk, Tb, fr, hA, hb, hc⟩
  · exact absurd h hne
  · refine ⟨b, off, hA, fun ty j v hty hv => Ld.one hb hty ?_, fun ty n j vs hty hn hl hv => ?_⟩
    · rw [hc j (List.getElem?_eq_some_iff.1 hv).1]; exact hv
    · subst hv
      refine Ld.agg hb hty hn (by simp; omega) (fun q hq => ?_)
      rw [Nat.add_assoc, hc _ (by omega), List.getElem?_take, if_pos hq, List.getElem?_drop]

end

theorem wi64 {x : Int} (h0 : -9223372036854775808 ≤ x) (h1 : x ≤ 9223372036854775807) : IntKind.i64.wrap x = x := by
  simp only [IntKind.wrap, IntKind.bits, IntKind.signed]
  simp
  omega
theorem wu64 {x : Int} (h0 : 0 ≤ x) (h1 : x ≤ 18446744073709551615) : IntKind.u64.wrap x = x := by
  simp only [IntKind.wrap, IntKind.bits, IntKind.signed]
  simp
  omega
end Go.Px
