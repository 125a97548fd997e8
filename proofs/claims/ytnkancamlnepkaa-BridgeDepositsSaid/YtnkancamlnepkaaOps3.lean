/-
  A rule of this seat's walks: bytes of a text that is converted to bytes. No condition beside those that stand in the theorem.
-/
import Derived.Test.YtnkancamlnepkaaOps2
set_option linter.all false
namespace Go.Px
open Go.RowKit

section
variable {P : Program} {N : FN} {ops : Array Oper} {Q : Exit → Act → World → Prop} {fl : FL} {T : Tab} {w : World} {i : Nat} {rest : OT}

def msT (P : Program) (T : Tab) (o : Oper) : Option (Option Nat × Addr × Nat × Nat) :=
  match o.op with
  | .convert src dst x => match P.underlying src, P.underlying dst, evT T x with
    | some (.slice _), some (.slice e), some (.slice (some a) n c) => (match P.underlying e, src == dst with
      | some (.int .u8), true => some (o.dst, a, n, c)
      | _, _ => none)
    | _, _, _ => none
  | _ => none

theorem wc_ms {M : Nat → Prop} {w0 : World} {m : Mem} (H : Hp M w0 w m) (k : Nat) (d : Option Nat) {b n c e : Nat} {cs : List Value} (hop' : ((opT N ops T i).bind (msT P T), fl i) = (some (d, ⟨b, 0, none⟩, n, c), 3)) (hm : m[k]? = some (.bk b (row cs e)))
    (h : ∀ w', Hp M w0 w' (m.set k (.pr (fun w => Rd w (some ⟨b, 0, none⟩) cs))) → WC P N ops Q fl rest (putT T d (.slice (some ⟨b, 0, none⟩) n c)) w') : WC P N ops Q fl (.s i rest) T w := by
  obtain ⟨hop, hf⟩ := Prod.mk.inj hop'
  obtain ⟨o, hq, h2⟩ := Option.bind_eq_some_iff.1 hop
  unfold msT at h2
  split at h2
  · rename_i src dst x hox
    split at h2
    · rename_i e1 e2 a n' c' hs hd hx
      split at h2
      · rename_i he hsd
        simp only [Option.some.injEq, Prod.mk.injEq] at h2
        obtain ⟨rfl, rfl, rfl, rfl⟩ := h2
        have hsd' : src = dst := by simpa using hsd
        subst hsd'
        have he12 : e1 = e2 := by rw [hs] at hd; simpa using hd
        subst he12
        refine wc_heap hq (by rw [hf]; rfl) fun ac hac => ?_
        have hb := H.ent hm
        have hsh : w.shape? b = some (e, cs.length) := by simp [World.shape?, hb]
        have hrun : (execOp ac.eval o).run P w = .ok (.value (.slice (some ⟨b, 0, none⟩) n' c')) (w.freeze ⟨b, cs.length, none⟩ 1) := by
          unfold execOp
          simp [hox, evT_spec hac hx, convert, run_underlying hs, run_underlying hd, run_underlying he, markStringish, shape, freeze, Sem.run, hsh, Sem.run_bind]
        unfold operR
        rw [hrun]
        have hnew : (w.freeze ⟨b, cs.length, none⟩ 1).heap[b]? = some (.cells cs.toArray e (cs.length, cs.length + 1)) := by
          simp [World.freeze, Array.getElem?_modify, hb]
        obtain ⟨G, g1, g2, g3⟩ := H.upd hm
        refine ⟨fun hh => by omega, h (w.freeze ⟨b, cs.length, none⟩ 1) (g3 (w.freeze ⟨b, cs.length, none⟩ 1) _ G rfl rfl rfl (by simp [World.freeze]) (fun j _ hj => ?_) (fun w' hw => ?_) fun j hj => .inl hj) _ (hac.putT (opT_spec hac hq).2.1 _)⟩
        · have : j ≠ b := fun e => hj (e ▸ g1.2)
          simp [World.freeze, Array.getElem?_modify, Ne.symm this]
        · refine .inr ⟨b, 0, cs.toArray, e, (cs.length, cs.length + 1), rfl, (hw b g1.2).trans hnew, fun j hj => by simp⟩
      · cases h2
    · cases h2
  · cases h2

/-- Any text is a row of bytes. -/
theorem strOf (s : ByteArray) : ∃ l : List Int, s = strOfNums l ∧ (∀ x ∈ l, 0 ≤ x ∧ x < 256) ∧ l.length = s.size := by
  refine ⟨s.data.toList.map fun u => (u.toNat : Int), ?_, ?_, ?_⟩
  · obtain ⟨d⟩ := s
    unfold strOfNums
    congr 1
    apply Array.ext'
    rw [List.map_map]
    exact (List.map_id'' (fun u => by simp only [Function.comp, Int.toNat_natCast, UInt8.ofNat_toNat]) _).symm
  · intro x hx
    obtain ⟨u, _, rfl⟩ := List.mem_map.1 hx
    have := u.toNat_lt
    omega
  · rw [List.length_map, Array.length_toList]; rfl
end
end Go.Px
