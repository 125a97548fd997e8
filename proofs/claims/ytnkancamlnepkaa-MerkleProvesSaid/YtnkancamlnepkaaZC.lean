/-
  Arguments that are matched; answers put into a caller's state. No condition.
-/
import Derived.Test.YtnkancamlnepkaaZB
set_option linter.all false
namespace Go.Px
open Go.RowKit

section
variable {FM : Nat → Fm}

theorem rwf_append {N : Nat} : ∀ {a b : List (Nat × Ce FM)}, rwf N (a ++ b) ↔ rwf N a ∧ rwf N b
  | [], b => by simp [rwf]
  | (i, c) :: a, b => by simp [rwf, rwf_append (a := a), and_assoc]
theorem ROk_append {E : List Ad} {w : World} : ∀ {a b : List (Nat × Ce FM)}, ROk E w (a ++ b) ↔ ROk E w a ∧ ROk E w b
  | [], b => by simp [ROk]
  | (i, c) :: a, b => by simp [ROk, ROk_append (a := a), and_assoc]

variable {S : SS FM} (hS : S.WF) {M : Nat → Prop} {w0 w : World} (H : HS M w0 w S)
include hS H

theorem csMch_spec : ∀ {l : List Cm} {d : Ce FM} {x : CsT FM l} {φs : List Prop}, csMch S l d = some (x, φs) → All φs → cwf d → cok S.E.length d = true → ∀ (E0 X : List Ad),
    cden (E0 ++ ((csBd l x E0.length).1 ++ X)) (csSg l x E0.length) = cden S.E d ∧ ROk (E0 ++ ((csBd l x E0.length).1 ++ X)) w (csBd l x E0.length).2 ∧ All (csHy l x) ∧ rwf (E0.length + (csBd l x E0.length).1.length) (csBd l x E0.length).2 ∧ cwf (csSg l x E0.length)
  | [], [], x, φs, h, _, _, _, E0, X => ⟨rfl, trivial, trivial, trivial, trivial⟩
  | c :: r, s :: d, x, φs, h, hφ, hw, hk, E0, X => by
    simp only [csMch] at h
    split at h
    · rename_i y φ z ψ hy hz
      simp only [Option.some.injEq, Prod.mk.injEq] at h
      obtain ⟨rfl, rfl⟩ := h
      obtain ⟨p1, p2⟩ := All_append.1 hφ
      simp only [cok, Bool.and_eq_true] at hk
      have hl : (E0 ++ (c.bd E0.length y).1).length = E0.length + (c.bd E0.length y).1.length := by simp
      obtain ⟨g1, g2, g3, g4, g5⟩ := Cm.mch_spec hS H hy p1 hw.1 hk.1 E0 ((csBd r z (E0.length + (c.bd E0.length y).1.length)).1 ++ X)
      obtain ⟨q1, q2, q3, q4, q5⟩ := csMch_spec hz p2 hw.2 hk.2 (E0 ++ (c.bd E0.length y).1) X
      rw [hl] at q1 q2 q4 q5
      simp only [List.append_assoc] at q1 q2
      refine ⟨?_, ?_, All_append.2 ⟨g3, q3⟩, ?_, ⟨g5, q5⟩⟩
      · simp only [csSg, csBd, cden, List.append_assoc, g1, q1]
      · simp only [csBd, List.append_assoc]
        exact ROk_append.2 ⟨g2, q2⟩
      · simp only [csBd, List.length_append]
        exact rwf_append.2 ⟨rwf_mono (by omega) g4, by rw [← Nat.add_assoc]; exact q4⟩
    · cases h
  | [], _ :: _, _, _, h, _, _, _, _, _ => by simp [csMch] at h
  | _ :: _, [], _, _, h, _, _, _, _, _ => by simp [csMch] at h

theorem argMch_spec {a : Arg} {v : TV FM} {x : a.T FM} {φs : List Prop} (h : a.mch S v = some (x, φs)) (hφ : All φs) (hw : v.wf) (hk : v.lt S.E.length = true) (hp : ∀ y, v = .v (.one y) → y.ok = true) (E0 X : List Ad) :
    (a.tv E0.length x).den (E0 ++ ((a.bd E0.length x).1 ++ X)) = v.den S.E ∧ ROk (E0 ++ ((a.bd E0.length x).1 ++ X)) w (a.bd E0.length x).2 ∧ All (sgHy [a] (x, ())) ∧ rwf (E0.length + (a.bd E0.length x).1.length) (a.bd E0.length x).2 ∧ (a.tv E0.length x).wf := by
  cases a with
  | one c =>
    cases v with
    | v y =>
      cases y with
      | one y =>
        have h : c.mch S (.b (.cl y)) = some (x, φs) := h
        have hk : y.lt S.E.length = true := hk
        obtain ⟨g1, g2, g3, g4, g5⟩ := Cm.mch_spec hS H h hφ trivial (by simp only [Sg.ok, Sg0.ok, hk, hp y rfl, Bool.and_self]) E0 X
        -- a part of one cell is one cell
        have hz : ∃ z, c.sg E0.length x = .b (.cl z) := by
          unfold Cm.mch at h
          cases c <;> first | exact ⟨_, rfl⟩ | exact absurd (show none = some (x, φs) from h) (by intro e; cases e)
        obtain ⟨z, hz⟩ := hz
        refine ⟨?_, g2, by simpa [sgHy] using g3, g4, ?_⟩
        · simp only [Arg.tv, Arg.bd]
          rw [hz] at g1 ⊢
          simp only [tvOf, TV.den, SV.den]
          simpa [Sg.den, Sg0.den] using g1
        · simp only [Arg.tv]
          rw [hz]; trivial
      | ag d => exact absurd (show none = some (x, φs) from h) (by intro e; cases e)
    | tup l => exact absurd (show none = some (x, φs) from h) (by intro e; cases e)
    | fn f a b => exact absurd (show none = some (x, φs) from h) (by intro e; cases e)
  | ag l =>
    cases v with
    | v y =>
      cases y with
      | one y => exact absurd (show none = some (x, φs) from h) (by intro e; cases e)
      | ag d =>
        have h : csMch S l d = some (x, φs) := h
        obtain ⟨g1, g2, g3, g4, g5⟩ := csMch_spec hS H h hφ hw hk E0 X
        exact ⟨by simp only [Arg.tv, Arg.bd, TV.den, SV.den, g1], g2, by simpa [sgHy] using g3, g4, g5⟩
    | tup l => exact absurd (show none = some (x, φs) from h) (by intro e; cases e)
    | fn f a b => exact absurd (show none = some (x, φs) from h) (by intro e; cases e)

def tvs1 : List (TV FM) → Bool
  | [] => true
  | .v (.one y) :: r => y.ok && tvs1 r
  | _ :: r => tvs1 r
def tvswf : List (TV FM) → Prop
  | [] => True
  | v :: r => v.wf ∧ tvswf r
def tvslt (N : Nat) : List (TV FM) → Bool
  | [] => true
  | v :: r => v.lt N && tvslt N r

theorem sgMch_spec : ∀ {l : List Arg} {d : List (TV FM)} {x : SgT FM l} {φs : List Prop}, sgMch S l d = some (x, φs) → All φs → tvswf d → tvslt S.E.length d = true → tvs1 d = true → ∀ (E0 X : List Ad),
    (sgTv l x E0.length).map (TV.den (E0 ++ ((sgBd l x E0.length).1 ++ X))) = d.map (TV.den S.E) ∧ ROk (E0 ++ ((sgBd l x E0.length).1 ++ X)) w (sgBd l x E0.length).2 ∧ All (sgHy l x)
  | [], [], x, φs, h, _, _, _, _, E0, X => ⟨rfl, trivial, trivial⟩
  | a :: r, v :: d, x, φs, h, hφ, hw, hk, h1, E0, X => by
    simp only [sgMch] at h
    split at h
    · rename_i y φ z ψ hy hz
      simp only [Option.some.injEq, Prod.mk.injEq] at h
      obtain ⟨rfl, rfl⟩ := h
      obtain ⟨p1, p2⟩ := All_append.1 hφ
      simp only [tvslt, Bool.and_eq_true] at hk
      have hl : (E0 ++ (a.bd E0.length y).1).length = E0.length + (a.bd E0.length y).1.length := by simp
      have hv1 : ∀ u, v = .v (.one u) → u.ok = true := by
        intro u e; subst e
        simp only [tvs1, Bool.and_eq_true] at h1; exact h1.1
      have hv2 : tvs1 d = true := by
        unfold tvs1 at h1
        split at h1
        · rename_i e; cases e
        · rename_i e
          simp only [List.cons.injEq] at e
          obtain ⟨rfl, rfl⟩ := e
          simp only [Bool.and_eq_true] at h1; exact h1.2
        · rename_i e
          simp only [List.cons.injEq] at e
          obtain ⟨rfl, rfl⟩ := e
          exact h1
      obtain ⟨g1, g2, g3, g4, g5⟩ := argMch_spec hS H hy p1 hw.1 hk.1 hv1 E0 ((sgBd r z (E0.length + (a.bd E0.length y).1.length)).1 ++ X)
      obtain ⟨q1, q2, q3⟩ := sgMch_spec hz p2 hw.2 hk.2 hv2 (E0 ++ (a.bd E0.length y).1) X
      rw [hl] at q1 q2
      simp only [List.append_assoc] at q1 q2
      refine ⟨?_, ?_, ?_⟩
      · simp only [sgTv, sgBd, List.map_cons, List.append_assoc, g1, q1]
      · simp only [sgBd, List.append_assoc]
        exact ROk_append.2 ⟨g2, q2⟩
      · cases a with
        | one c => exact All_append.2 ⟨by simpa [sgHy] using g3, q3⟩
        | ag l => exact All_append.2 ⟨by simpa [sgHy] using g3, q3⟩
    · cases h
  | [], _ :: _, _, _, h, _, _, _, _, _, _ => by simp [sgMch] at h
  | _ :: _, [], _, _, h, _, _, _, _, _, _ => by simp [sgMch] at h
omit hS H

/-! ### Answers -/
def S0.sh (n : Nat) : S0 → S0
  | .xv v => .xv v
  | .kb b => .kb b
  | .st l => .st l
  | .pt id o => .pt (n + id) o
  | .qt id o i s q => .qt (n + id) o i s q
  | .sc id o k c t => .sc (n + id) o k c t
  | .yl id => .yl (n + id)
def Sg.sh (n : Nat) : Sg FM → Sg FM
  | .b (.cl x) => .b (.cl (x.sh n))
  | s => s
def csh (n : Nat) : Ce FM → Ce FM
  | [] => []
  | s :: c => s.sh n :: csh n c
def SV.sh (n : Nat) : SV FM → SV FM
  | .one x => .one (x.sh n)
  | .ag c => .ag (csh n c)
def svsh (n : Nat) : List (SV FM) → List (SV FM)
  | [] => []
  | x :: l => x.sh n :: svsh n l
def TV.sh (n : Nat) : TV FM → TV FM
  | .v x => .v (x.sh n)
  | .tup l => .tup (svsh n l)
  | .fn f a b => .fn f (svsh n a) (svsh n b)
def Pc.sh (n : Nat) : Pc FM → Pc FM
  | .bk id c t => .bk (n + id) (csh n c) t
  | .sl id k q c e s => .sl (n + id) k q (csh n c) e s
  | .rd id c => .rd (n + id) (csh n c)
  | .pr φ => .pr φ
  | .lp id r st pd => .lp (n + id) r st pd
  | .mk id b => .mk (n + id) b
def msh (n : Nat) : List (Pc FM) → List (Pc FM)
  | [] => []
  | p :: m => p.sh n :: msh n m

theorem bas_sh {E E' : List Ad} {id o : Nat} : bas (E ++ E') (E.length + id) o = bas E' id o := by
  unfold bas; rw [List.getElem?_append_right (by omega)]; simp
theorem plc_sh {E E' : List Ad} {id o : Nat} : plc (E ++ E') (E.length + id) o = plc E' id o := by
  unfold plc; rw [List.getElem?_append_right (by omega)]; simp
theorem bno_sh {E E' : List Ad} {id : Nat} : bno (E ++ E') (E.length + id) = bno E' id := by
  unfold bno; rw [List.getElem?_append_right (by omega)]; simp
theorem isbk_sh {E E' : List Ad} {id : Nat} : isbk (E ++ E') (E.length + id) = isbk E' id := by
  unfold isbk; rw [List.getElem?_append_right (by omega)]; simp
theorem S0.sh_den {E E' : List Ad} {x : S0} : (x.sh E.length).den (E ++ E') = x.den E' := by
  cases x <;> simp only [S0.sh, S0.den, bas_sh, plc_sh, bno_sh]
theorem csh_den {E E' : List Ad} : ∀ {c : Ce FM}, cden (E ++ E') (csh E.length c) = cden E' c
  | [] => rfl
  | .b (.cl x) :: c => by simp only [csh, Sg.sh, cden, Sg.den, Sg0.den, S0.sh_den, csh_den (c := c)]
  | .b (.iz k l n) :: c => by simp only [csh, Sg.sh, cden, Sg.den, Sg0.den, csh_den (c := c)]
  | .f j l n :: c => by simp only [csh, Sg.sh, cden, Sg.den, csh_den (c := c)]
theorem csh_wf {n : Nat} : ∀ {c : Ce FM}, cwf (csh n c) ↔ cwf c
  | [] => Iff.rfl
  | .b (.cl x) :: c => by simp only [csh, Sg.sh, cwf, Sg.wf, Sg0.wf, csh_wf (c := c)]
  | .b (.iz k l m) :: c => by simp only [csh, Sg.sh, cwf, Sg.wf, Sg0.wf, csh_wf (c := c)]
  | .f j l m :: c => by simp only [csh, Sg.sh, cwf, Sg.wf, csh_wf (c := c)]
theorem SV.sh_den {E E' : List Ad} {x : SV FM} : (x.sh E.length).den (E ++ E') = x.den E' := by
  cases x with
  | one x => exact S0.sh_den
  | ag c => simp only [SV.sh, SV.den, csh_den]
theorem SV.sh_wf {n : Nat} {x : SV FM} : (x.sh n).wf ↔ x.wf := by
  cases x with
  | one x => exact Iff.rfl
  | ag c => exact csh_wf
theorem svsh_den {E E' : List Ad} : ∀ {l : List (SV FM)}, (svsh E.length l).map (SV.den (E ++ E')) = l.map (SV.den E')
  | [] => rfl
  | x :: l => by simp only [svsh, List.map_cons, SV.sh_den, svsh_den (l := l)]
theorem svsh_wf {n : Nat} : ∀ {l : List (SV FM)}, svwf (svsh n l) ↔ svwf l
  | [] => Iff.rfl
  | x :: l => by simp only [svsh, svwf, SV.sh_wf, svsh_wf (l := l)]
theorem TV.sh_den {E E' : List Ad} {x : TV FM} : (x.sh E.length).den (E ++ E') = x.den E' := by
  cases x with
  | v x => exact SV.sh_den
  | tup l => simp only [TV.sh, TV.den, svsh_den]
  | fn f a b => simp only [TV.sh, TV.den, svsh_den]
theorem TV.sh_wf {n : Nat} {x : TV FM} : (x.sh n).wf ↔ x.wf := by
  cases x with
  | v x => exact SV.sh_wf
  | tup l => exact svsh_wf
  | fn f a b => exact and_congr svsh_wf svsh_wf
theorem msh_den {E E' : List Ad} : ∀ {m : List (Pc FM)}, mden (E ++ E') (msh E.length m) = mden E' m
  | [] => rfl
  | .bk id c t :: m => by simp only [msh, Pc.sh, mden, Pc.den, bno_sh, csh_den, msh_den (m := m)]
  | .sl id k q c e s :: m => by simp only [msh, Pc.sh, mden, Pc.den, bas_sh, csh_den, msh_den (m := m)]
  | .rd id c :: m => by simp only [msh, Pc.sh, mden, Pc.den, bas_sh, csh_den, msh_den (m := m)]
  | .pr φ :: m => by simp only [msh, Pc.sh, mden, Pc.den, msh_den (m := m)]
  | .lp id r st pd :: m => by simp only [msh, Pc.sh, mden, Pc.den, bno_sh, msh_den (m := m)]
  | .mk id b :: m => by simp only [msh, Pc.sh, mden, Pc.den, bno_sh, msh_den (m := m)]
theorem msh_wf {n : Nat} : ∀ {m : List (Pc FM)}, mwf (msh n m) ↔ mwf m
  | [] => Iff.rfl
  | .bk id c t :: m => by simp only [msh, Pc.sh, mwf, Pc.wf, csh_wf, msh_wf (m := m)]
  | .sl id k q c e s :: m => by simp only [msh, Pc.sh, mwf, Pc.wf, csh_wf, msh_wf (m := m)]
  | .rd id c :: m => by simp only [msh, Pc.sh, mwf, Pc.wf, csh_wf, msh_wf (m := m)]
  | .pr φ :: m => by simp only [msh, Pc.sh, mwf, Pc.wf, msh_wf (m := m)]
  | .lp id r st pd :: m => by simp only [msh, Pc.sh, mwf, Pc.wf, msh_wf (m := m)]
  | .mk id b :: m => by simp only [msh, Pc.sh, mwf, Pc.wf, msh_wf (m := m)]
theorem mden_append {E : List Ad} : ∀ {a b : List (Pc FM)}, mden E (a ++ b) = mden E a ++ mden E b
  | [], b => rfl
  | p :: a, b => by simp only [List.cons_append, mden, mden_append (a := a)]
theorem mwf_append : ∀ {a b : List (Pc FM)}, mwf (a ++ b) ↔ mwf a ∧ mwf b
  | [], b => by simp [mwf]
  | p :: a, b => by simp [mwf, mwf_append (a := a), and_assoc]
theorem mlt_append {N : Nat} : ∀ {a b : List (Pc FM)}, mlt N (a ++ b) = true ↔ mlt N a = true ∧ mlt N b = true
  | [], b => by simp [mlt]
  | p :: a, b => by simp [mlt, mlt_append (a := a), and_assoc]
theorem mbk_append {E : List Ad} : ∀ {a b : List (Pc FM)}, mbk E (a ++ b) = true ↔ mbk E a = true ∧ mbk E b = true
  | [], b => by simp [mbk]
  | p :: a, b => by simp [mbk, mbk_append (a := a), and_assoc]
end
end Go.Px
