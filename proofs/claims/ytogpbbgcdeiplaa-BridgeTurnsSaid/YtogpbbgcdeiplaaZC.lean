/-
  Arguments that are matched; answers put into a caller's state. No condition.
-/
import Derived.Test.YtogpbbgcdeiplaaZB
set_option linter.all false
namespace Go.Px
open Go.RowKit

section
variable {FM : Nat → Fm}

theorem rwf_append {N : Nat} : ∀ {a b : List (Nat × Ce FM)}, rwf N (a ++ b) ↔ rwf N a ∧ rwf N b
  | [], b => by simp [rwf]
  | (i, c) :: a, b => by simp [rwf, rwf_append (a := a), and_assoc]
theorem ROk_append {E : List Ad} {w : World} : ∀ {a b : List (Nat × Ce FM)}, ROk E w (a ++ b) ↔ ROk E w a ∧ ROk E w b
  | [], b => by simp [ROk]
  | (i, c) :: a, b => by simp [ROk, ROk_append (a := a), and_assoc]

variable {S : SS FM} (hS : S.WF) {M : Nat → Prop} {w0 w : World} (H : HS M w0 w S)
include hS H

theorem csMch_spec : ∀ {l : List Cm} {d : Ce FM} {x : CsT FM l} {φs : List Prop}, csMch S l d = some (x, φs) → All φs → cwf d → cok S.E.length d = true → ∀ (E0 X : List Ad),
    cden (E0 ++ ((csBd l x E0.length).1 ++ X)) (csSg l x E0.length) = cden S.E d ∧ ROk (E0 ++ ((csBd l x E0.length).1 ++ X)) w (csBd l x E0.length).2 ∧ All (csHy l x) ∧ rwf (E0.length + (csBd l x E0.length).1.length) (csBd l x E0.length).2 ∧ cwf (csSg l x E0.length)
  | [], [], x, φs, h, _, _, _, E0, X => ⟨rfl, trivial, trivial, trivial, trivial⟩
  | c :: r, s :: d, x, φs, h, hφ, hw, hk, E0, X => by
    simp only [csMch] at h
    split at h
    · rename_i y φ z ψ hy hz
      simp only [Option.some.injEq, Prod.mk.injEq] at h
      obtain ⟨rfl, rfl⟩ := h
      obtain ⟨p1, p2⟩ := All_append.1 hφ
      simp only [cok, Bool.and_eq_true] at hk
      have hl : (E0 ++ (c.bd E0.length y).1).length = E0.length + (c.bd E0.length y).1.length := by simp
      obtain ⟨g1, g2, g3, g4, g5⟩ := Cm.mch_spec hS H hy p1 hw.1 hk.1 E0 ((csBd r z (E0.length + (c.bd E0.length y).1.length)).1 ++ X)
      obtain ⟨q1, q2, q3, q4, q5⟩ := csMch_spec hz p2 hw.2 hk.2 (E0 ++ (c.bd E0.length y).1) X
      rw [hl] at q1 q2 q4 q5
      simp only [List.append_assoc] at q1 q2
      refine ⟨?_, ?_, All_append.2 ⟨g3, q3⟩, ?_, ⟨g5, q5⟩⟩
      · simp only [csSg, csBd, cden, List.append_assoc, g1, q1]
      · simp only [csBd, List.append_assoc]
        exact ROk_append.2 ⟨g2, q2⟩
      · simp only [csBd, List.length_append]
        exact rwf_append.2 ⟨rwf_mono (by omega) g4, by rw [← Nat.add_assoc]; exact q4⟩
    · cases h
  | [], _ :: _, _, _, h, _, _, _, _, _ => by simp [csMch] at h
  | _ :: _, [], _, _, h, _, _, _, _, _ => by simp [csMch] at h

theorem argMch_spec {a : Arg} {v : TV FM} {x : a.T FM} {φs : List Prop} (h : a.mch S v = some (x, φs)) (hφ : All φs) (hw : v.wf) (hk : v.lt S.E.length = true) (hp : ∀ y, v = .v (.one y) → y.ok = true) (E0 X : List Ad) :
    (a.tv E0.length x).den (E0 ++ ((a.bd E0.length x).1 ++ X)) = v.den S.E ∧ ROk (E0 ++ ((a.bd E0.length x).1 ++ X)) w (a.bd E0.length x).2 ∧ All (sgHy [a] (x, ())) ∧ rwf (E0.length + (a.bd E0.length x).1.length) (a.bd E0.length x).2 ∧ (a.tv E0.length x).wf := by
  cases a with
  | one c =>
    cases v with
    | v y =>
      cases y with
      | one y =>
        have h : c.mch S (.b (.cl y)) = some (x, φs) := h
        have hk : y.lt S.E.length = true := hk
        obtain ⟨g1, g2, g3, g4, g5⟩ := Cm.mch_spec hS H h hφ trivial (by simp only [Sg.ok, Sg0.ok, hk, hp y rfl, Bool.and_self]) E0 X
        -- a part of one cell is one cell
        have hz : ∃ z, c.sg E0.length x = .b (.cl z) := by
          unfold Cm.mch at h
          cases c <;> first | exact ⟨_, rfl⟩ | exact absurd (show none = some (x, φs) from h) (by intro e; cases e)
        obtain ⟨z, hz⟩ := hz
        refine ⟨?_, g2, by simpa [sgHy] using g3, g4, ?_⟩
        · simp only [Arg.tv, Arg.bd]
          rw [hz] at g1 ⊢
          simp only [tvOf, TV.den, SV.den]
          simpa [Sg.den, Sg0.den] using g1
        · simp only [Arg.tv]
          rw [hz]; trivial
      | ag d => exact absurd (show none = some (x, φs) from h) (by intro e; cases e)
    | tup l => exact absurd (show none = some (x, φs) from h) (by intro e; cases e)
    | fn f a b => exact absurd (show none = some (x, φs) from h) (by intro e; cases e)
  | ag l =>
    cases v with
    | v y =>
      cases y with
      | one y => exact absurd (show none = some (x, φs) from h) (by intro e; cases e)
      | ag d =>
        have h : csMch S l d = some (x, φs) := h
        obtain ⟨g1, g2, g3, g4, g5⟩ := csMch_spec hS H h hφ hw hk E0 X
        exact ⟨by simp only [Arg.tv, Arg.bd, TV.den, SV.den, g1], g2, by simpa [sgHy] using g3, g4, g5⟩
    | tup l => exact absurd (show none = some (x, φs) from h) (by intro e; cases e)
    | fn f a b => exact absurd (show none = some (x, φs) from h) (by intro e; cases e)

def tvs1 : List (TV FM) → Bool
  | [] => true
  | .v (.one y) :: r => y.ok && tvs1 r
  | _ :: r => tvs1 r
def tvswf : List (TV FM) → Prop
  | [] => True
  | v :: r => v.wf ∧ tvswf r
def tvslt (N : Nat) : List (TV FM) → Bool
  | [] => true
  | v :: r => v.lt N && tvslt N r

theorem sgMch_spec : ∀ {l : List Arg} {d : List (TV FM)} {x : SgT FM l} {φs : List Prop}, sgMch S l d = some (x, φs) → All φs → tvswf d → tvslt S.E.length d = true → tvs1 d = true → ∀ (E0 X : List Ad),
    (sgTv l x E0.length).map (TV.den (E0 ++ ((sgBd l x E0.length).1 ++ X))) = d.map (TV.den S.E) ∧ ROk (E0 ++ ((sgBd l x E0.length).1 ++ X)) w (sgBd l x E0.length).2 ∧ All (sgHy l x)
  | [], [], x, φs, h, _, _, _, _, E0, X => ⟨rfl, trivial, trivial⟩
  | a :: r, v :: d, x, φs, h, hφ, hw, hk, h1, E0, X => by
    simp only [sgMch] at h
    split at h
    · rename_i y φ z ψ hy hz
      simp only [Option.some.injEq, Prod.mk.injEq] at h
      obtain ⟨rfl, rfl⟩ := h
      obtain ⟨p1, p2⟩ := All_append.1 hφ
      simp only [tvslt, Bool.and_eq_true] at hk
      have hl : (E0 ++ (a.bd E0.length y).1).length = E0.length + (a.bd E0.length y).1.length := by simp
      have hv1 : ∀ u, v = .v (.one u) → u.ok = true := by
        intro u e; subst e
        simp only [tvs1, Bool.and_eq_true] at h1; exact h1.1
      have hv2 : tvs1 d = true := by
        unfold tvs1 at h1
        split at h1
        · rename_i e; cases e
        · rename_i e
          simp only [List.cons.injEq] at e
          obtain ⟨rfl, rfl⟩ := e
          simp only [Bool.and_eq_true] at h1; exact h1.2
        · rename_i e
          simp only [List.cons.injEq] at e
          obtain ⟨rfl, rfl⟩ := e
          exact h1
      obtain ⟨g1, g2, g3, g4, g5⟩ := argMch_spec hS H hy p1 hw.1 hk.1 hv1 E0 ((sgBd r z (E0.length + (a.bd E0.length y).1.length)).1 ++ X)
      obtain ⟨q1, q2, q3⟩ := sgMch_spec hz p2 hw.2 hk.2 hv2 (E0 ++ (a.bd E0.length y).1) X
      rw [hl] at q1 q2
      simp only [List.append_assoc] at q1 q2
      refine ⟨?_, ?_, ?_⟩
      · simp only [sgTv, sgBd, List.map_cons, List.append_assoc, g1, q1]
      · simp only [sgBd, List.append_assoc]
        exact ROk_append.2 ⟨g2, q2⟩
      · cases a with
        | one c => exact All_append.2 ⟨by simpa [sgHy] using g3, q3⟩
        | ag l => exact All_append.2 ⟨by simpa [sgHy] using g3, q3⟩
    · cases h
  | [], _ :: _, _, _, h, _, _, _, _, _, _ => by simp [sgMch] at h
  | _ :: _, [], _, _, h, _, _, _, _, _, _ => by simp [sgMch] at h
omit hS H

/-! ### Answers -/
def S0.sh (n : Nat) : S0 → S0
  | .xv v => .xv v
  | .kb b => .kb b
  | .st l => .st l
  | .pt id o => .pt (n + id) o
  | .qt id o i s q => .qt (n + id) o i s q
  | .sc id o k c t => .sc (n + id) o k c t
  | .yl id => .yl (n + id)
  | .mv id => .mv (n + id)
def Sg.sh (n : Nat) : Sg FM → Sg FM
  | .b (.cl x) => .b (.cl (x.sh n))
  | s => s
def csh (n : Nat) : Ce FM → Ce FM
  | [] => []
  | s :: c => s.sh n :: csh n c
def SV.sh (n : Nat) : SV FM → SV FM
  | .one x => .one (x.sh n)
  | .ag c => .ag (csh n c)
def svsh (n : Nat) : List (SV FM) → List (SV FM)
  | [] => []
  | x :: l => x.sh n :: svsh n l
def TV.sh (n : Nat) : TV FM → TV FM
  | .v x => .v (x.sh n)
  | .tup l => .tup (svsh n l)
  | .fn f a b => .fn f (svsh n a) (svsh n b)
def rssh (n : Nat) : List (Nat × Ce FM) → List (Nat × Ce FM)
  | [] => []
  | (id, c) :: r => (n + id, csh n c) :: rssh n r
def Pc.sh (n : Nat) : Pc FM → Pc FM
  | .bk id c t => .bk (n + id) (csh n c) t
  | .sl id k q c e s => .sl (n + id) k q (csh n c) e s
  | .rd id c => .rd (n + id) (csh n c)
  | .pr φ => .pr φ
  | .lp id r st pd => .lp (n + id) r st pd
  | .mk id b => .mk (n + id) b
  | .mp id k l => .mp (n + id) k l
  | .fz rs ds => .fz (rssh n rs) ds
def msh (n : Nat) : List (Pc FM) → List (Pc FM)
  | [] => []
  | p :: m => p.sh n :: msh n m

theorem bas_sh {E E' : List Ad} {id o : Nat} : bas (E ++ E') (E.length + id) o = bas E' id o := by
  unfold bas; rw [List.getElem?_append_right (by omega)]; simp
theorem plc_sh {E E' : List Ad} {id o : Nat} : plc (E ++ E') (E.length + id) o = plc E' id o := by
  unfold plc; rw [List.getElem?_append_right (by omega)]; simp
theorem bno_sh {E E' : List Ad} {id : Nat} : bno (E ++ E') (E.length + id) = bno E' id := by
  unfold bno; rw [List.getElem?_append_right (by omega)]; simp
theorem S0.sh_den {E E' : List Ad} {x : S0} : (x.sh E.length).den (E ++ E') = x.den E' := by
  cases x <;> simp only [S0.sh, S0.den, bas_sh, plc_sh, bno_sh]
theorem csh_den {E E' : List Ad} : ∀ {c : Ce FM}, cden (E ++ E') (csh E.length c) = cden E' c
  | [] => rfl
  | .b (.cl x) :: c => by simp only [csh, Sg.sh, cden, Sg.den, Sg0.den, S0.sh_den, csh_den (c := c)]
  | .b (.iz k l n) :: c => by simp only [csh, Sg.sh, cden, Sg.den, Sg0.den, csh_den (c := c)]
  | .f j l n :: c => by simp only [csh, Sg.sh, cden, Sg.den, csh_den (c := c)]
theorem csh_wf {n : Nat} : ∀ {c : Ce FM}, cwf (csh n c) ↔ cwf c
  | [] => Iff.rfl
  | .b (.cl x) :: c => by simp only [csh, Sg.sh, cwf, Sg.wf, Sg0.wf, csh_wf (c := c)]
  | .b (.iz k l m) :: c => by simp only [csh, Sg.sh, cwf, Sg.wf, Sg0.wf, csh_wf (c := c)]
  | .f j l m :: c => by simp only [csh, Sg.sh, cwf, Sg.wf, csh_wf (c := c)]
theorem csh_dRd {n : Nat} {w : World} : ∀ {c : Ce FM}, dRd w (csh n c) = dRd w c
  | [] => rfl
  | .b (.cl x) :: c => by simp only [csh, Sg.sh, dRd, csh_dRd (c := c)]
  | .b (.iz k l m) :: c => by simp only [csh, Sg.sh, dRd, csh_dRd (c := c)]
  | .f j l m :: c => by simp only [csh, Sg.sh, dRd, csh_dRd (c := c)]
theorem rssh_den {E E' : List Ad} {w : World} : ∀ {r : List (Nat × Ce FM)}, ROk (E ++ E') w (rssh E.length r) = ROk E' w r
  | [] => rfl
  | (id, c) :: r => by simp only [rssh, ROk, bas_sh, csh_den, csh_dRd, rssh_den (r := r)]
theorem rssh_wf {n : Nat} : ∀ {r : List (Nat × Ce FM)}, rswf (rssh n r) ↔ rswf r
  | [] => Iff.rfl
  | (id, c) :: r => by simp only [rssh, rswf, csh_wf, rssh_wf (r := r)]
theorem SV.sh_den {E E' : List Ad} {x : SV FM} : (x.sh E.length).den (E ++ E') = x.den E' := by
  cases x with
  | one x => exact S0.sh_den
  | ag c => simp only [SV.sh, SV.den, csh_den]
theorem SV.sh_wf {n : Nat} {x : SV FM} : (x.sh n).wf ↔ x.wf := by
  cases x with
  | one x => exact Iff.rfl
  | ag c => exact csh_wf
theorem svsh_den {E E' : List Ad} : ∀ {l : List (SV FM)}, (svsh E.length l).map (SV.den (E ++ E')) = l.map (SV.den E')
  | [] => rfl
  | x :: l => by simp only [svsh, List.map_cons, SV.sh_den, svsh_den (l := l)]
theorem svsh_wf {n : Nat} : ∀ {l : List (SV FM)}, svwf (svsh n l) ↔ svwf l
  | [] => Iff.rfl
  | x :: l => by simp only [svsh, svwf, SV.sh_wf, svsh_wf (l := l)]
theorem TV.sh_den {E E' : List Ad} {x : TV FM} : (x.sh E.length).den (E ++ E') = x.den E' := by
  cases x with
  | v x => exact SV.sh_den
  | tup l => simp only [TV.sh, TV.den, svsh_den]
  | fn f a b => simp only [TV.sh, TV.den, svsh_den]
theorem TV.sh_wf {n : Nat} {x : TV FM} : (x.sh n).wf ↔ x.wf := by
  cases x with
  | v x => exact SV.sh_wf
  | tup l => exact svsh_wf
  | fn f a b => exact and_congr svsh_wf svsh_wf
theorem msh_den {E E' : List Ad} : ∀ {m : List (Pc FM)}, mden (E ++ E') (msh E.length m) = mden E' m
  | [] => rfl
  | .bk id c t :: m => by simp only [msh, Pc.sh, mden, Pc.den, bno_sh, csh_den, msh_den (m := m)]
  | .sl id k q c e s :: m => by simp only [msh, Pc.sh, mden, Pc.den, bas_sh, csh_den, msh_den (m := m)]
  | .rd id c :: m => by simp only [msh, Pc.sh, mden, Pc.den, bas_sh, csh_den, msh_den (m := m)]
  | .pr φ :: m => by simp only [msh, Pc.sh, mden, Pc.den, msh_den (m := m)]
  | .lp id r st pd :: m => by simp only [msh, Pc.sh, mden, Pc.den, bno_sh, msh_den (m := m)]
  | .mk id b :: m => by simp only [msh, Pc.sh, mden, Pc.den, bno_sh, msh_den (m := m)]
  | .mp id k l :: m => by simp only [msh, Pc.sh, mden, Pc.den, bno_sh, msh_den (m := m)]
  | .fz rs ds :: m => by simp only [msh, Pc.sh, mden, Pc.den, rssh_den, msh_den (m := m)]
theorem msh_wf {n : Nat} : ∀ {m : List (Pc FM)}, mwf (msh n m) ↔ mwf m
  | [] => Iff.rfl
  | .bk id c t :: m => by simp only [msh, Pc.sh, mwf, Pc.wf, csh_wf, msh_wf (m := m)]
  | .sl id k q c e s :: m => by simp only [msh, Pc.sh, mwf, Pc.wf, csh_wf, msh_wf (m := m)]
  | .rd id c :: m => by simp only [msh, Pc.sh, mwf, Pc.wf, csh_wf, msh_wf (m := m)]
  | .pr φ :: m => by simp only [msh, Pc.sh, mwf, Pc.wf, msh_wf (m := m)]
  | .lp id r st pd :: m => by simp only [msh, Pc.sh, mwf, Pc.wf, msh_wf (m := m)]
  | .mk id b :: m => by simp only [msh, Pc.sh, mwf, Pc.wf, msh_wf (m := m)]
  | .mp id k l :: m => by simp only [msh, Pc.sh, mwf, Pc.wf, msh_wf (m := m)]
  | .fz rs ds :: m => by simp only [msh, Pc.sh, mwf, Pc.wf, rssh_wf, msh_wf (m := m)]
theorem mden_append {E : List Ad} : ∀ {a b : List (Pc FM)}, mden E (a ++ b) = mden E a ++ mden E b
  | [], b => rfl
  | p :: a, b => by simp only [List.cons_append, mden, mden_append (a := a)]
theorem mwf_append : ∀ {a b : List (Pc FM)}, mwf (a ++ b) ↔ mwf a ∧ mwf b
  | [], b => by simp [mwf]
  | p :: a, b => by simp [mwf, mwf_append (a := a), and_assoc]
theorem mlt_append {N : Nat} : ∀ {a b : List (Pc FM)}, mlt N (a ++ b) = true ↔ mlt N a = true ∧ mlt N b = true
  | [], b => by simp [mlt]
  | p :: a, b => by simp [mlt, mlt_append (a := a), and_assoc]
theorem mbk_append {E : List Ad} : ∀ {a b : List (Pc FM)}, mbk E (a ++ b) = true ↔ mbk E a = true ∧ mbk E b = true
  | [], b => by simp [mbk]
  | p :: a, b => by simp [mbk, mbk_append (a := a), and_assoc]

section
variable {M : Nat → Prop} {w0 w : World}
/-- Cells of the call's own as parts of records, out of what is no longer written. -/
def dcFz (E : List Ad) (rs : List (Nat × Ce FM)) : Ce FM → Option (List DC × List Prop)
  | [] => some ([], [])
  | .b (.cl (.xv (.slice none 0 0))) :: c => (dcFz E rs c).map fun (r, φ) => (.d none .u8 [] 0 :: r, φ)
  | .b (.cl (.sc id o n cap t)) :: c => bif t || !Nat.beq o 0 then none else match rAt rs id, dcFz E rs c with
    | some [.b (.iz k l _)], some (r, ψ) => some (.d (bas E id o) k l cap :: r, (n = l.length) :: ψ)
    | _, _ => none
  | .b s :: c => bif s.ok 0 then (dcFz E rs c).map fun (r, φ) => (.c s :: r, φ) else none
  | .f .. :: _ => none
theorem rAt_rd {E : List Ad} {w : World} : ∀ {r : List (Nat × Ce FM)} {id : Nat} {c : Ce FM}, rAt r id = some c → ROk E w r → Rd w (bas E id 0) (cden E c)
  | [], id, c, h, _ => by simp [rAt] at h
  | (j, d) :: r, id, c, h, h1 => by
    simp only [rAt, cond_eq_ite] at h
    split at h
    · rename_i hj
      have := beq_n hj; subst this
      simp only [Option.some.injEq] at h; subst h
      exact h1.1.1
    · exact rAt_rd h h1.2
theorem dcFz_spec {E : List Ad} {rs : List (Nat × Ce FM)} : ∀ {c : Ce FM} {ds : List DC} {φ : List Prop}, dcFz E rs c = some (ds, φ) → All φ → cwf c → dcden ds = cden E c ∧ dcwf ds ∧ ∀ w', ROk E w' rs → ∀ A k l cap, DC.d A k l cap ∈ ds → Rd w' A (iv k l)
  | [], ds, φ, h, _, _ => by
    simp only [dcFz, Option.some.injEq, Prod.mk.injEq] at h
    obtain ⟨rfl, rfl⟩ := h
    exact ⟨rfl, trivial, by simp⟩
  | .f .. :: _, _, _, h, _, _ => by simp [dcFz] at h
  | .b s :: c, ds, φ, h, hφ, hw => by
    unfold dcFz at h
    split at h
    · rename_i e; cases e
    · rename_i c1 e
      simp only [List.cons.injEq, Sg.b.injEq] at e
      obtain ⟨rfl, rfl⟩ := e
      obtain ⟨⟨r, ψ⟩, hr, h⟩ := Option.map_eq_some_iff.1 h
      simp only [Prod.mk.injEq] at h
      obtain ⟨rfl, rfl⟩ := h
      obtain ⟨g1, g2, g3⟩ := dcFz_spec hr hφ hw.2
      refine ⟨by simp only [dcden, DC.den, cden, Sg.den, Sg0.den, S0.den, g1]; rfl, g2, fun w' hR A k l cap hm => ?_⟩
      rcases List.mem_cons.1 hm with e | hm
      · simp only [DC.d.injEq] at e
        obtain ⟨rfl, rfl, rfl, rfl⟩ := e
        exact Rd.nil _ _
      · exact g3 w' hR A k l cap hm
    · rename_i id o n cap t c1 e
      simp only [List.cons.injEq, Sg.b.injEq] at e
      obtain ⟨rfl, rfl⟩ := e
      simp only [cond_eq_ite] at h
      split at h
      · cases h
      · rename_i hto
        have ho : o = 0 := by
          by_cases ho : Nat.beq o 0 = true
          · exact beq_n ho
          · simp [ho] at hto
        subst ho
        split at h
        · rename_i k l m r ψ ha hr
          simp only [Option.some.injEq, Prod.mk.injEq] at h
          obtain ⟨rfl, rfl⟩ := h
          obtain ⟨hn, hφ⟩ := hφ
          obtain ⟨g1, g2, g3⟩ := dcFz_spec hr hφ hw.2
          refine ⟨by simp only [dcden, DC.den, cden, Sg.den, Sg0.den, S0.den, g1, hn], g2, fun w' hR A k' l' cap' hm => ?_⟩
          rcases List.mem_cons.1 hm with e | hm
          · simp only [DC.d.injEq] at e
            obtain ⟨rfl, rfl, rfl, rfl⟩ := e
            have := rAt_rd ha hR
            simpa [cden, Sg.den, Sg0.den] using this
          · exact g3 w' hR A k' l' cap' hm
        · cases h
    · rename_i s' c1 _ _ e
      simp only [List.cons.injEq, Sg.b.injEq] at e
      obtain ⟨rfl, rfl⟩ := e
      simp only [cond_eq_ite] at h
      split at h
      · rename_i hk
        obtain ⟨⟨r, ψ⟩, hr, h⟩ := Option.map_eq_some_iff.1 h
        simp only [Prod.mk.injEq] at h
        obtain ⟨rfl, rfl⟩ := h
        obtain ⟨g1, g2, g3⟩ := dcFz_spec hr hφ hw.2
        refine ⟨?_, ⟨hw.1, g2⟩, fun w' hR A k l cap hm => ?_⟩
        · have := c0ext (E := []) (X := E) (c := [s]) (by simp only [c0ok, List.length_nil, hk, Bool.and_self])
          simp only [c0den, List.append_nil, List.nil_append] at this
          simp only [dcden, DC.den, cden, Sg.den, g1, this]
        · rcases List.mem_cons.1 hm with e | hm
          · cases e
          · exact g3 w' hR A k l cap hm
      · cases h
    · rename_i e; cases e
/-- A row of cells as records whose slices are no longer written. -/
def packK (E : List Ad) (m : List (Pc FM)) (kY kf j : Nat) : Option (List (Pc FM) × List Prop) := match m[kY]?, m[kf]? with
  | some (.sl id n q c e s), some (.fz rs ds) => (dcFz E rs c).bind fun (D, φ) => (dchk (FM j) (D.length + 1) D).map fun l => ((m.set kY (.sl id n q [.f j l l.length] e s)).set kf (.fz rs ([.f j l l.length] :: ds)), φ)
  | _, _ => none
theorem packK_spec {E : List Ad} {m m' : List (Pc FM)} {kY kf j : Nat} {φ : List Prop} (h : packK E m kY kf j = some (m', φ)) (hφ : All φ) (hw : mwf m) (H : Hp M w0 w (mden E m)) : Hp M w0 w (mden E m') ∧ mwf m' := by
  unfold packK at h
  split at h
  · rename_i id n q c e s rs ds hY hf
    obtain ⟨⟨D, φ'⟩, hD, h⟩ := Option.bind_eq_some_iff.1 h
    obtain ⟨l, hl, h⟩ := Option.map_eq_some_iff.1 h
    simp only [Prod.mk.injEq] at h
    obtain ⟨rfl, rfl⟩ := h
    have hne : kY ≠ kf := fun e => by rw [e, hf] at hY; simp at hY
    have wY : cwf c := mwf_at hw hY
    have wf : rswf rs := mwf_at hw hf
    obtain ⟨g1, g2, g3⟩ := dcFz_spec hD hφ wY
    have key : ∀ w', ROk E w' rs → dcden D = fden (FM j) l ∧ ∀ a ∈ l, (FM j).wf a ∧ fmRd (FM j) w' a := fun w' hR => dchk_spec (w := w') hl g2 (g3 w' hR)
    have h0 := H.pr kf (mden_at (E := E) hf)
    refine ⟨?_, ?_⟩
    · have e1 : cden E [.f j l l.length] = cden E c := by
        rw [← g1, (key _ h0.1).1]; simp [cden, Sg.den]
      rw [mden_set, mden_set]
      have lY : kY < (mden E m).length := (List.getElem?_eq_some_iff.1 (mden_at (E := E) hY)).1
      have e2 : (mden E m).set kY (Pc.den E (.sl id n q [.f j l l.length] e s)) = mden E m := by
        have := mden_at (E := E) hY
        refine List.ext_getElem? fun i => ?_
        by_cases hi : i = kY
        · subst hi
          rw [List.getElem?_set_self lY, this]
          simp only [Pc.den, e1]
        · rw [List.getElem?_set_ne (Ne.symm hi)]
      rw [e2]
      exact H.prTo kf (φ := fun w => ROk E w rs ∧ dsOk w ds) (mden_at (E := E) hf) fun w' hw' => ⟨hw'.1, ⟨⟨fun a ha => ((key w' hw'.1).2 a ha).2, trivial⟩, hw'.2⟩⟩
    · exact mwf_set (mwf_set hw ⟨⟨rfl, fun a ha => ((key w h0.1).2 a ha).1⟩, trivial⟩) wf
  · cases h
end

section
variable {M : Nat → Prop} {w0 w : World}
/-- Where the pieces that are no longer written stand. -/
def fzIs : Nat → List (Pc FM) → List Nat
  | _, [] => []
  | i, .fz _ _ :: m => i :: fzIs (i + 1) m
  | i, _ :: m => fzIs (i + 1) m
def lstO : List Nat → Option Nat
  | [] => none
  | [x] => some x
  | _ :: y :: r => lstO (y :: r)
def fzLast (m : List (Pc FM)) : Option Nat := lstO (fzIs 0 m)
def mrgAll : List (Pc FM) → Nat → List Nat → List (Pc FM)
  | m, _, [] => m
  | m, k, i :: r => match mrgK m k i with
    | some m' => mrgAll m' k r
    | none => mrgAll m k r
/-- All that is no longer written is told by the last such piece. -/
def nrmF (m : List (Pc FM)) : List (Pc FM) := match fzLast m with
  | some k => mrgAll m k (fzIs 0 m)
  | none => m
/-- It, and what it says. -/
def fzC (m : List (Pc FM)) : Option (Nat × List (Nat × Ce FM) × List (Ce FM)) := (fzLast m).bind fun k => match (nrmF m)[k]? with
  | some (.fz rs ds) => some (k, rs, ds)
  | _ => none
theorem fzC_spec {m : List (Pc FM)} {k : Nat} {rs : List (Nat × Ce FM)} {ds : List (Ce FM)} (h : fzC m = some (k, rs, ds)) : (nrmF m)[k]? = some (.fz rs ds) := by
  unfold fzC at h
  obtain ⟨k', hk, h⟩ := Option.bind_eq_some_iff.1 h
  split at h
  · rename_i rs' ds' he
    simp only [Option.some.injEq, Prod.mk.injEq] at h
    obtain ⟨rfl, rfl, rfl⟩ := h; exact he
  · cases h
/-- A piece for what is no longer written. -/
def wfz (m : List (Pc FM)) : List (Pc FM) := match fzLast m with
  | some _ => nrmF m
  | none => .fz [] [] :: m
/-- The slices of raw cells. -/
def inIds : Ce FM → List Nat
  | [] => []
  | .b (.cl (.sc id _ _ _ _)) :: c => id :: inIds c
  | _ :: c => inIds c
/-- All these are no longer written, and told by one piece. -/
def frzAll : List (Pc FM) → Option Nat → List Nat → Option (List (Pc FM) × Option Nat)
  | m, kf, [] => some (m, kf)
  | m, kf, id :: r => match pcAt m id with
    | some (k, _) => (frzK m k).bind fun m1 => match kf with
      | some f => (mrgK m1 f k).bind fun m2 => frzAll m2 (some f) r
      | none => frzAll m1 (some k) r
    | none => frzAll m kf r
theorem frzAll_spec {E : List Ad} : ∀ {ids : List Nat} {m m' : List (Pc FM)} {kf kf' : Option Nat}, frzAll m kf ids = some (m', kf') → Hp M w0 w (mden E m) → Hp M w0 w (mden E m')
  | [], m, m', kf, kf', h, H => by
    simp only [frzAll, Option.some.injEq, Prod.mk.injEq] at h
    obtain ⟨rfl, -⟩ := h; exact H
  | id :: r, m, m', kf, kf', h, H => by
    simp only [frzAll] at h
    split at h
    · obtain ⟨m1, h1, h⟩ := Option.bind_eq_some_iff.1 h
      have H1 := frzK_spec h1 H
      split at h
      · obtain ⟨m2, h2, h⟩ := Option.bind_eq_some_iff.1 h
        exact frzAll_spec h (mrgK_spec h2 H1)
      · exact frzAll_spec h H1
    · exact frzAll_spec h H
/-- What the shape of the pieces keeps. -/
def Kp (E : List Ad) (m m' : List (Pc FM)) : Prop := (mlt E.length m = true → mlt E.length m' = true) ∧ (mbk E m = true → mbk E m' = true)
theorem Kp.trans {E : List Ad} {a b c : List (Pc FM)} (h : Kp E a b) (k : Kp E b c) : Kp E a c := ⟨fun x => k.1 (h.1 x), fun x => k.2 (h.2 x)⟩
theorem rswf_app : ∀ {a b : List (Nat × Ce FM)}, rswf (a ++ b) ↔ rswf a ∧ rswf b
  | [], b => by simp [rswf]
  | (i, c) :: a, b => by simp [rswf, rswf_app (a := a), and_assoc]
theorem rslt_app {N : Nat} : ∀ {a b : List (Nat × Ce FM)}, rslt N (a ++ b) = (rslt N a && rslt N b)
  | [], b => by simp [rslt]
  | (i, c) :: a, b => by simp [rslt, rslt_app (a := a), Bool.and_assoc]
theorem frzK_wf {E : List Ad} {m m' : List (Pc FM)} {k : Nat} (h : frzK m k = some m') : Kp E m m' ∧ (mwf m → mwf m') := by
  unfold frzK at h
  split at h
  · rename_i id n q c e s hk
    simp only [cond_eq_ite] at h
    split at h
    · simp only [Option.some.injEq] at h; subst h
      refine ⟨⟨fun hl => mlt_set hl ?_, fun hb => mbk_set hb rfl⟩, fun hw => mwf_set hw ⟨(mwf_at hw hk : cwf c), trivial⟩⟩
      have h1 : (Nat.blt id E.length && cok E.length c) = true := mlt_at hl hk
      simp only [Pc.lt, rslt, h1, Bool.and_self]
    · cases h
  · cases h
theorem mrgK_wf {E : List Ad} {m m' : List (Pc FM)} {i j : Nat} (h : mrgK m i j = some m') : Kp E m m' ∧ (mwf m → mwf m') := by
  unfold mrgK at h
  split at h
  · rename_i rs ds rs' ds' hi hj
    simp only [cond_eq_ite] at h
    split at h
    · cases h
    · simp only [Option.some.injEq] at h; subst h
      refine ⟨⟨fun hl => mlt_set (mlt_set hl ?_) rfl, fun hb => mbk_set (mbk_set hb rfl) rfl⟩, fun hw => mwf_set (mwf_set hw (rswf_app.2 ⟨mwf_at hw hi, mwf_at hw hj⟩)) trivial⟩
      have h1 : rslt E.length rs = true := mlt_at hl hi
      have h2 : rslt E.length rs' = true := mlt_at hl hj
      simp only [Pc.lt, rslt_app, h1, h2, Bool.and_self]
  · cases h
theorem packK_kp {E : List Ad} {m m' : List (Pc FM)} {kY kf j : Nat} {φ : List Prop} (h : packK E m kY kf j = some (m', φ)) : Kp E m m' := by
  unfold packK at h
  split at h
  · rename_i id n q c e s rs ds hY hf
    obtain ⟨⟨D, φ'⟩, hD, h⟩ := Option.bind_eq_some_iff.1 h
    obtain ⟨l, hl, h⟩ := Option.map_eq_some_iff.1 h
    simp only [Prod.mk.injEq] at h
    obtain ⟨rfl, rfl⟩ := h
    refine ⟨fun hl => mlt_set (mlt_set hl ?_) (mlt_at hl hf : rslt E.length rs = true), fun hb => mbk_set (mbk_set hb rfl) rfl⟩
    have h1 : (Nat.blt id E.length && cok E.length c) = true := mlt_at hl hY
    simp only [Bool.and_eq_true] at h1
    simp only [Pc.lt, h1.1, cok, Sg.ok, Bool.and_self]
  · cases h
theorem frzAll_wf {E : List Ad} : ∀ {ids : List Nat} {m m' : List (Pc FM)} {kf kf' : Option Nat}, frzAll m kf ids = some (m', kf') → Kp E m m' ∧ (mwf m → mwf m')
  | [], m, m', kf, kf', h => by
    simp only [frzAll, Option.some.injEq, Prod.mk.injEq] at h
    obtain ⟨rfl, -⟩ := h; exact ⟨⟨fun h => h, fun h => h⟩, fun h => h⟩
  | id :: r, m, m', kf, kf', h => by
    simp only [frzAll] at h
    split at h
    · obtain ⟨m1, h1, h⟩ := Option.bind_eq_some_iff.1 h
      obtain ⟨a1, a2⟩ := frzK_wf (E := E) h1
      split at h
      · obtain ⟨m2, h2, h⟩ := Option.bind_eq_some_iff.1 h
        obtain ⟨b1, b2⟩ := mrgK_wf (E := E) h2
        obtain ⟨c1, c2⟩ := frzAll_wf (E := E) h
        exact ⟨(a1.trans b1).trans c1, fun hw => c2 (b2 (a2 hw))⟩
      · obtain ⟨c1, c2⟩ := frzAll_wf (E := E) h
        exact ⟨a1.trans c1, fun hw => c2 (a2 hw)⟩
    · exact frzAll_wf h
theorem mrgAll_ok {E : List Ad} : ∀ {is : List Nat} {m : List (Pc FM)} {k : Nat}, (Hp M w0 w (mden E m) → Hp M w0 w (mden E (mrgAll m k is))) ∧ Kp E m (mrgAll m k is) ∧ (mwf m → mwf (mrgAll m k is))
  | [], m, k => ⟨fun h => h, ⟨fun h => h, fun h => h⟩, fun h => h⟩
  | i :: r, m, k => by
    simp only [mrgAll]
    split
    · rename_i m' h
      obtain ⟨a1, a2, a3⟩ := mrgAll_ok (E := E) (is := r) (m := m') (k := k)
      obtain ⟨b1, b2⟩ := mrgK_wf (E := E) h
      exact ⟨fun H => a1 (mrgK_spec h H), b1.trans a2, fun hw => a3 (b2 hw)⟩
    · exact mrgAll_ok
theorem nrmF_ok {E : List Ad} {m : List (Pc FM)} : (Hp M w0 w (mden E m) → Hp M w0 w (mden E (nrmF m))) ∧ Kp E m (nrmF m) ∧ (mwf m → mwf (nrmF m)) := by
  unfold nrmF
  split
  · exact mrgAll_ok
  · exact ⟨fun h => h, ⟨fun h => h, fun h => h⟩, fun h => h⟩
theorem wfz_ok {m : List (Pc FM)} {E : List Ad} (H : Hp M w0 w (mden E m)) : Hp M w0 w (mden E (wfz m)) ∧ Kp E m (wfz m) ∧ (mwf m → mwf (wfz m)) := by
  unfold wfz
  split
  · exact ⟨nrmF_ok.1 H, (nrmF_ok (w := w) (w0 := w0) (M := M)).2⟩
  · exact ⟨H.add0 (e := (Pc.fz [] []).den E) (fun _ _ => ⟨trivial, trivial⟩), ⟨fun h => h, fun h => h⟩, fun h => ⟨trivial, h⟩⟩
end
end
end Go.Px
