/-
  Contracts: what a function is handed, as plain data; how a caller's state says it; what it answers. No condition.
-/
import Derived.Test.YtogpbbgcdeiplaaZA
set_option linter.all false
namespace Go.Px
open Go.RowKit

/-- A part of an argument: a number, a truth, numbers of an array, records of an array, a slice of numbers or of records, a text, anything of one cell. -/
inductive Cm where
  | int (k : IntKind)
  | boo
  | arr (k : IntKind) (n : Nat)
  | rcs (j n : Nat)
  | sli (k : IntKind)
  | slr (j : Nat)
  | str
  | any
  | ptr (k : IntKind) (n : Nat)
inductive Arg where
  | one (c : Cm)
  | ag (l : List Cm)

section
variable {FM : Nat → Fm}

def Cm.T (FM : Nat → Fm) : Cm → Type
  | .int _ => Int
  | .boo => Bool
  | .arr _ _ => List Int
  | .rcs j _ => List (FM j).α
  | .sli _ => Option Addr × List Int × Nat
  | .slr j => Option Addr × List (FM j).α × Nat
  | .str => List Int
  | .any => Value
  | .ptr _ _ => Nat × List Int
def CsT (FM : Nat → Fm) : List Cm → Type
  | [] => Unit
  | c :: r => c.T FM × CsT FM r
def Arg.T (FM : Nat → Fm) : Arg → Type
  | .one c => c.T FM
  | .ag l => CsT FM l
def SgT (FM : Nat → Fm) : List Arg → Type
  | [] => Unit
  | a :: r => a.T FM × SgT FM r

abbrev Bd (FM : Nat → Fm) := List Ad × List (Nat × Ce FM)
def Cm.sg (n : Nat) : (c : Cm) → c.T FM → Sg FM
  | .int k, x => .b (.cl (.xv (.int k x)))
  | .boo, x => .b (.cl (.xv (.bool x)))
  | .arr k n, l => .b (.iz k l n)
  | .rcs j n, l => .f j l n
  | .sli _, x => .b (.cl (.sc n 0 x.2.1.length x.2.2 false))
  | .slr _, x => .b (.cl (.sc n 0 x.2.1.length x.2.2 false))
  | .str, l => .b (.cl (.st l))
  | .any, v => .b (.cl (.xv v))
  | .ptr _ _, _ => .b (.cl (.pt n 0))
def Cm.bd (n : Nat) : (c : Cm) → c.T FM → Bd FM
  | .sli k, x => ([.ad x.1], [(n, [.b (.iz k x.2.1 x.2.1.length)])])
  | .slr j, x => ([.ad x.1], [(n, [.f j x.2.1 x.2.1.length])])
  | .int _, _ => ([], [])
  | .boo, _ => ([], [])
  | .arr _ _, _ => ([], [])
  | .rcs _ _, _ => ([], [])
  | .str, _ => ([], [])
  | .any, _ => ([], [])
  | .ptr k m, x => ([.bk x.1], [(n, [.b (.iz k x.2 m)])])
def csSg : (l : List Cm) → CsT FM l → Nat → Ce FM
  | [], _, _ => []
  | c :: r, x, n => c.sg n x.1 :: csSg r x.2 (n + (c.bd n x.1).1.length)
def csBd : (l : List Cm) → CsT FM l → Nat → Bd FM
  | [], _, _ => ([], [])
  | c :: r, x, n => ((c.bd n x.1).1 ++ (csBd r x.2 (n + (c.bd n x.1).1.length)).1, (c.bd n x.1).2 ++ (csBd r x.2 (n + (c.bd n x.1).1.length)).2)
def tvOf : Sg FM → TV FM
  | .b (.cl x) => .v (.one x)
  | s => .v (.ag [s])
def Arg.tv (n : Nat) : (a : Arg) → a.T FM → TV FM
  | .one c, x => tvOf (c.sg n x)
  | .ag l, x => .v (.ag (csSg l x n))
def Arg.bd (n : Nat) : (a : Arg) → a.T FM → Bd FM
  | .one c, x => c.bd n x
  | .ag l, x => csBd l x n
def sgTv : (l : List Arg) → SgT FM l → Nat → List (TV FM)
  | [], _, _ => []
  | a :: r, x, n => a.tv n x.1 :: sgTv r x.2 (n + (a.bd n x.1).1.length)
def sgBd : (l : List Arg) → SgT FM l → Nat → Bd FM
  | [], _, _ => ([], [])
  | a :: r, x, n => ((a.bd n x.1).1 ++ (sgBd r x.2 (n + (a.bd n x.1).1.length)).1, (a.bd n x.1).2 ++ (sgBd r x.2 (n + (a.bd n x.1).1.length)).2)

/-- What is known of the data that come in. -/
def Cm.hy : (c : Cm) → c.T FM → List Prop
  | .arr _ n, l => [List.length (α := Int) l = n]
  | .rcs j n, l => [List.length (α := (FM j).α) l = n, ∀ a, List.Mem (α := (FM j).α) a l → (FM j).wf a]
  | .slr j, x => [∀ a ∈ x.2.1, (FM j).wf a]
  | .int _, _ => []
  | .boo, _ => []
  | .sli _, x => [x.1.isNone = true → x.2.1 = []]
  | .str, _ => []
  | .any, v => [(plain v) = true]
  | .ptr _ m, x => [List.length (α := Int) x.2 = m]
def csHy : (l : List Cm) → CsT FM l → List Prop
  | [], _ => []
  | c :: r, x => c.hy x.1 ++ csHy r x.2
def sgHy : (l : List Arg) → SgT FM l → List Prop
  | [], _ => []
  | .one c :: r, x => Cm.hy c x.1 ++ sgHy r x.2
  | .ag l :: r, x => csHy l x.1 ++ sgHy r x.2

/-- What a function answers: existential data, new memory, and what is known. -/
structure PS (FM : Nat → Fm) where
  Y : Type
  E : Y → List Ad
  ret : Y → TV FM
  m : Y → List (Pc FM)
  fact : Y → List Prop
def PS.R (p : PS FM) (M : Nat → Prop) (w : World) : Ending → World → Prop := fun e w' =>
  ∃ y, e = .returned ((p.ret y).den (p.E y)) ∧ (p.ret y).wf ∧ mwf (p.m y) ∧ Hp M w w' (mden (p.E y) (p.m y)) ∧ All (p.fact y)

structure Con (P : Program) (FM : Nat → Fm) where
  f : FuncId
  sig : List Arg
  pre : SgT FM sig → List Prop
  post : SgT FM sig → PS FM
  ok : ∀ (w : World) (x : SgT FM sig), All (sgHy sig x) → ROk (sgBd sig x 0).1 w (sgBd sig x 0).2 → All (pre x) →
    Calls P f ((sgTv sig x 0).map (TV.den (sgBd sig x 0).1)).toArray w ((post x).R no w)

/-! ### A caller's state -/
/-- The cells of a slice at hand. -/
def arC (S : SS FM) (id o n : Nat) (t : Bool) (sz : Nat) : Option (Ce FM × List Prop) :=
  bif isbk S.E id then
    match pcAt S.m id with
    | some (_, p) => bif Nat.beq o 0 && !t then some (p.ce, []) else (csub p.ce o (n * sz)).map fun c => (c, [])
    | none => match rAt S.R id with
      | some d => bif Nat.beq o 0 && !t then some (d, []) else (csub d o (n * sz)).map fun c => (c, [])
      | none => none
  else bif Nat.beq o 0 then (rdOf S.m S.V S.R 9 id).bind fun (c, φs) => bif t then (vcut c 0 n sz).map fun (r, m) => (r, (0 + n ≤ m) :: φs) else some (c, φs)
  else none

/-- Cells of the call's own as parts of records: what stands in a slice is told. -/
def dcOf (S : SS FM) : Ce FM → Option (List DC × List Prop)
  | [] => some ([], [])
  | .b (.cl (.xv (.slice none 0 0))) :: c => (dcOf S c).map fun (r, φ) => (.d none .u8 [] 0 :: r, φ)
  | .b (.cl (.sc id o n cap t)) :: c => match arC S id o n t 1, dcOf S c with
    | some ([.b (.iz k l m)], φ), some (r, ψ) => some (.d (bas S.E id o) k l cap :: r, (n = m) :: (φ ++ ψ))
    | _, _ => none
  | .b s :: c => bif s.ok 0 then (dcOf S c).map fun (r, φ) => (.c s :: r, φ) else none
  | .f .. :: _ => none
/-- Records of them. -/
def dchk (F : Fm) : Nat → List DC → Option (List F.α)
  | _, [] => some []
  | 0, _ => none
  | f + 1, l => match F.ofD (l.take (F.sg F.d).length) with
    | some a => (dchk F f (l.drop (F.sg F.d).length)).map (a :: ·)
    | none => none
/-- Rows of records whose slices are known to stand: out of pieces, out of what was handed in. -/
def dsAll : List (Pc FM) → List (Ce FM)
  | [] => []
  | .fz _ ds :: m => ds ++ dsAll m
  | _ :: m => dsAll m
def dsR : List (Nat × Ce FM) → List (Ce FM)
  | [] => []
  | (_, c) :: r => c :: dsR r
theorem dsOk_app {w : World} : ∀ {a b : List (Ce FM)}, dsOk w a → dsOk w b → dsOk w (a ++ b)
  | [], _, _, h => h
  | _ :: _, _, h, k => ⟨h.1, dsOk_app h.2 k⟩
theorem dsAll_ok {M : Nat → Prop} {w0 w : World} {E : List Ad} : ∀ {m : List (Pc FM)}, Hp M w0 w (mden E m) → dsOk w (dsAll m)
  | [], _ => trivial
  | p :: m, H => by
    have rec_ : dsOk w (dsAll m) := dsAll_ok (H.sub (List.sublist_cons_self _ _))
    cases p with
    | fz rs ds => exact dsOk_app (H.pr 0 rfl).2 rec_
    | _ => exact rec_
theorem dsR_ok {E : List Ad} {w : World} : ∀ {r : List (Nat × Ce FM)}, ROk E w r → dsOk w (dsR r)
  | [], _ => trivial
  | (_, _) :: _, h => ⟨h.1.2, dsR_ok h.2⟩
/-- A row of records of a form. -/
def rowJ (j : Nat) : Ce FM → Option (List (FM j).α × Nat)
  | [.f j' l m] => if h : j' = j then some (h ▸ l, m) else none
  | _ => none
theorem rowJ_spec {j : Nat} {c : Ce FM} {l : List (FM j).α} {m : Nat} (h : rowJ j c = some (l, m)) : c = [.f j l m] := by
  unfold rowJ at h
  split at h
  · split at h
    · rename_i e
      subst e
      simp only [Option.some.injEq, Prod.mk.injEq] at h
      obtain ⟨rfl, rfl⟩ := h; rfl
    · cases h
  · cases h
/-- The records of a deep slice at hand. -/
def arD (S : SS FM) (j id o n : Nat) (t : Bool) : Option (List (FM j).α × List Prop) :=
  bif Nat.beq o 0 then match rdR S.V S.R 9 id with
    | some (c, φs) => match (bif t then (vcut c 0 n (FM j).sz).map fun (r, m) => (r, (0 + n ≤ m) :: φs) else some (c, φs)) with
      | some ([.f j' l m], ψ) => if h : j' = j then some (h ▸ l, (n = m) :: ψ) else none
      | _ => none
    | none => match pcAt S.m id with
      | some (_, .sl _ n0 _ c _ _) => match rowJ j c with
        | some (l, m) => bif t then some (l.take n, [n ≤ m, ∀ a ∈ l.take n, memL a (dsJ j (dsAll S.m ++ dsR S.R))]) else some (l, [n = m, ∀ a ∈ l, memL a (dsJ j (dsAll S.m ++ dsR S.R))])
        | none => bif t then none else (dcOf S c).bind fun (ds, φ) => (dchk (FM j) (ds.length + 1) ds).map fun l => (l, (n = n0) :: (n = l.length) :: φ)
      | _ => none
  else none
def Cm.mch (S : SS FM) : (c : Cm) → Sg FM → Option (c.T FM × List Prop)
  | .int k, .b (.cl (.xv (.int k' x))) => bif decide (k = k') then some (x, []) else none
  | .boo, .b (.cl (.xv (.bool x))) => some (x, [])
  | .boo, .b (.cl (.kb x)) => some (x, [])
  | .arr k n, .b (.iz k' l n') => bif decide (k = k') && Nat.beq n n' then some (l, []) else none
  | .rcs j n, .f j' l n' => if h : j' = j then (bif Nat.beq n n' then some (h ▸ l, []) else none) else none
  | .sli k, .b (.cl (.xv (.slice none 0 0))) => some ((none, [], 0), [])
  | .sli k, .b (.cl (.sc id o n cap t)) => (arC S id o n t 1).bind fun (c, φs) => match c with
    | [.b (.iz k' l m)] => bif decide (k = k') then some ((bas S.E id o, l, cap), (n = m) :: φs) else none
    | _ => none
  | .slr j, .b (.cl (.xv (.slice none 0 0))) => some ((none, [], 0), [])
  | .slr j, .b (.cl (.sc id o n cap t)) => bif (FM j).deep then (arD S j id o n t).map fun (l, φs) => ((bas S.E id o, l, cap), φs) else (arC S id o n t (FM j).sz).bind fun (c, φs) => match c with
    | [.f j' l m] => if h : j' = j then some ((bas S.E id o, h ▸ l, cap), (n = m) :: φs) else none
    | _ => none
  | .str, .b (.cl (.st l)) => some (l, [])
  | .ptr k m, .b (.cl (.pt id 0)) => bif isbk S.E id then (rdOf S.m S.V S.R 9 id).bind fun (c, φs) => match c with
    | [.b (.iz k' l m')] => bif decide (k = k') && Nat.beq m m' then some ((bno S.E id, l), φs) else none
    | _ => none else none
  | .any, .b (.cl x) => bif plain (x.den S.E) then some (x.den S.E, []) else none
  | _, _ => none
def csMch (S : SS FM) : (l : List Cm) → Ce FM → Option (CsT FM l × List Prop)
  | [], [] => some ((), [])
  | c :: r, s :: d => match c.mch S s, csMch S r d with
    | some (x, φ), some (y, ψ) => some ((x, y), φ ++ ψ)
    | _, _ => none
  | _, _ => none
def Arg.mch (S : SS FM) : (a : Arg) → TV FM → Option (a.T FM × List Prop)
  | .one c, .v (.one x) => c.mch S (.b (.cl x))
  | .ag l, .v (.ag d) => csMch S l d
  | _, _ => none
def sgMch (S : SS FM) : (l : List Arg) → List (TV FM) → Option (SgT FM l × List Prop)
  | [], [] => some ((), [])
  | a :: r, v :: d => match a.mch S v, sgMch S r d with
    | some (x, φ), some (y, ψ) => some ((x, y), φ ++ ψ)
    | _, _ => none
  | _, _ => none

theorem Rd.sub {w : World} {b o n : Nat} {cs : List Value} (h : Rd w (some ⟨b, 0, none⟩) cs) (ho : o + n ≤ cs.length) : Rd w (some ⟨b, o, none⟩) ((cs.drop o).take n) := by
  rcases h with hr | ⟨b', off, blk, T, fr, hA, hb', hcc⟩
  · left; rw [hr]; simp
  · simp only [Option.some.injEq, Addr.mk.injEq] at hA
    obtain ⟨rfl, rfl, -⟩ := hA
    refine .inr ⟨_, o, blk, T, fr, rfl, hb', fun j hj => ?_⟩
    simp only [List.length_take, List.length_drop] at hj
    rw [List.getElem?_take, if_pos (by omega), List.getElem?_drop]
    have := hcc (o + j) (by omega)
    rw [Nat.zero_add] at this
    exact this
theorem arC_spec {S : SS FM} (hS : S.WF) {M : Nat → Prop} {w0 w : World} (H : HS M w0 w S) {id o n sz : Nat} {t : Bool} {c : Ce FM} {φs : List Prop} (h : arC S id o n t sz = some (c, φs)) (hφ : All φs) :
    Rd w (bas S.E id o) (cden S.E c) ∧ cwf c := by
  unfold arC at h
  simp only [cond_eq_ite] at h
  split at h
  · rename_i hb
    have main : ∀ {d : Ce FM}, Rd w (bas S.E id 0) (cden S.E d) → cwf d → cok S.E.length d = true → (if (Nat.beq o 0 && !t) = true then some (d, []) else (csub d o (n * sz)).map fun c => (c, [])) = some (c, φs) → Rd w (bas S.E id o) (cden S.E c) ∧ cwf c := by
      intro d hr hw hl hz
      split at hz
      · rename_i hc
        rw [Bool.and_eq_true] at hc
        have := beq_n hc.1; subst this
        simp only [Option.some.injEq, Prod.mk.injEq] at hz
        obtain ⟨rfl, rfl⟩ := hz
        exact ⟨hr, hw⟩
      · obtain ⟨r, hr', hz⟩ := Option.map_eq_some_iff.1 hz
        simp only [Prod.mk.injEq] at hz
        obtain ⟨rfl, rfl⟩ := hz
        obtain ⟨g1, g2, g3, g4, g5⟩ := csub_spec (E := S.E) hr' hw hl
        refine ⟨?_, g2⟩
        rw [bas_bk hb] at hr ⊢
        rw [← g1]
        exact hr.sub (by rw [clen hw]; exact g5)
    split at h
    · rename_i k p hp
      obtain ⟨h1, h2, h3⟩ := pcAt_spec (E := S.E) hp
      have hr := pc_rd H.hp hS.b hp
      have hw : cwf p.ce := by have := mwf_at hS.m h1; cases p <;> first | exact this | trivial
      have hl : cok S.E.length p.ce = true := by
        have hl := mlt_at hS.ml h1
        cases p with
        | bk id c ty => have hl : (Nat.blt id S.E.length && cok S.E.length c) = true := hl; simp only [Bool.and_eq_true] at hl; exact hl.2
        | sl id n cap c e s => have hl : (Nat.blt id S.E.length && cok S.E.length c) = true := hl; simp only [Bool.and_eq_true] at hl; exact hl.2
        | rd id c => have hl : (Nat.blt id S.E.length && cok S.E.length c) = true := hl; simp only [Bool.and_eq_true] at hl; exact hl.2
        | pr φ => rfl
        | lp id r st pd => rfl
        | mk id b => rfl
        | mp id n l => rfl
        | fz rs ds => rfl
      exact main hr hw hl h
    · split at h
      · rename_i d hd
        obtain ⟨⟨q1, -⟩, q2, q3⟩ := rAt_spec hd H.rd hS.r
        exact main q1 q2 q3 h
      · cases h
  · split at h
    · rename_i hb ho
      have := beq_n ho; subst this
      obtain ⟨⟨c', φ'⟩, hc, h⟩ := Option.bind_eq_some_iff.1 h
      simp only at h
      split at h
      · obtain ⟨⟨r, m⟩, hr, h⟩ := Option.map_eq_some_iff.1 h
        simp only [Prod.mk.injEq] at h
        obtain ⟨rfl, rfl⟩ := h
        obtain ⟨q1, q2, q3⟩ := rdOf_spec hS H hc hφ.2
        obtain ⟨g1, g2, g3⟩ := vcut_spec (E := S.E) (N := S.E.length) hr q2 hφ.1
        refine ⟨?_, g2⟩
        rw [Nat.zero_mul, List.drop_zero] at g1
        rw [← g1]
        have e : cden S.E c' = (cden S.E c').take (n * sz) ++ (cden S.E c').drop (n * sz) := (List.take_append_drop _ _).symm
        rw [e] at q1
        exact q1.left
      · simp only [Option.some.injEq, Prod.mk.injEq] at h
        obtain ⟨rfl, rfl⟩ := h
        obtain ⟨q1, q2, q3⟩ := rdOf_spec hS H hc hφ
        exact ⟨q1, q2⟩
    · cases h

theorem bas_at {E0 X : List Ad} {A : Option Addr} {o : Nat} : bas (E0 ++ (.ad A :: X)) E0.length o = A := by
  unfold bas; simp

theorem dcOf_spec {S : SS FM} (hS : S.WF) {M : Nat → Prop} {w0 w : World} (H : HS M w0 w S) : ∀ {c : Ce FM} {ds : List DC} {φ : List Prop}, dcOf S c = some (ds, φ) → All φ → cwf c → dcden ds = cden S.E c ∧ dcwf ds ∧ ∀ A k l cap, DC.d A k l cap ∈ ds → Rd w A (iv k l)
  | [], ds, φ, h, _, _ => by
    simp only [dcOf, Option.some.injEq, Prod.mk.injEq] at h
    obtain ⟨rfl, rfl⟩ := h
    exact ⟨rfl, trivial, by simp⟩
  | .f .. :: _, _, _, h, _, _ => by simp [dcOf] at h
  | .b s :: c, ds, φ, h, hφ, hw => by
    unfold dcOf at h
    split at h
    · rename_i e; cases e
    · rename_i c1 e
      simp only [List.cons.injEq, Sg.b.injEq] at e
      obtain ⟨rfl, rfl⟩ := e
      obtain ⟨⟨r, ψ⟩, hr, h⟩ := Option.map_eq_some_iff.1 h
      simp only [Prod.mk.injEq] at h
      obtain ⟨rfl, rfl⟩ := h
      obtain ⟨g1, g2, g3⟩ := dcOf_spec hS H hr hφ hw.2
      refine ⟨by simp only [dcden, DC.den, cden, Sg.den, Sg0.den, S0.den, g1]; rfl, g2, fun A k l cap hm => ?_⟩
      rcases List.mem_cons.1 hm with e | hm
      · simp only [DC.d.injEq] at e
        obtain ⟨rfl, rfl, rfl, rfl⟩ := e
        exact Rd.nil _ _
      · exact g3 A k l cap hm
    · rename_i id o n cap t c1 e
      simp only [List.cons.injEq, Sg.b.injEq] at e
      obtain ⟨rfl, rfl⟩ := e
      split at h
      · rename_i k l m φ' r ψ ha hr
        simp only [Option.some.injEq, Prod.mk.injEq] at h
        obtain ⟨rfl, rfl⟩ := h
        obtain ⟨hn, hφ⟩ := hφ
        obtain ⟨h1, h2⟩ := All_append.1 hφ
        obtain ⟨q1, q2⟩ := arC_spec hS H ha h1
        have hl : l.length = m := q2.1
        obtain ⟨g1, g2, g3⟩ := dcOf_spec hS H hr h2 hw.2
        refine ⟨by simp only [dcden, DC.den, cden, Sg.den, Sg0.den, S0.den, g1, hl, hn], g2, fun A k' l' cap' hm => ?_⟩
        rcases List.mem_cons.1 hm with e | hm
        · simp only [DC.d.injEq] at e
          obtain ⟨rfl, rfl, rfl, rfl⟩ := e
          simpa [cden, Sg.den, Sg0.den] using q1
        · exact g3 A k' l' cap' hm
      · cases h
    · rename_i s1 c1 _ _ e
      simp only [List.cons.injEq, Sg.b.injEq] at e
      obtain ⟨rfl, rfl⟩ := e
      simp only [cond_eq_ite] at h
      split at h
      · rename_i hk
        obtain ⟨⟨r, ψ⟩, hr, h⟩ := Option.map_eq_some_iff.1 h
        simp only [Prod.mk.injEq] at h
        obtain ⟨rfl, rfl⟩ := h
        obtain ⟨g1, g2, g3⟩ := dcOf_spec hS H hr hφ hw.2
        have e0 := Sg0.ext (E := []) (X := S.E) hk
        rw [List.nil_append] at e0
        refine ⟨by simp only [dcden, DC.den, cden, Sg.den, g1, e0], ⟨hw.1, g2⟩, fun A k l cap hm => ?_⟩
        rcases List.mem_cons.1 hm with e | hm
        · cases e
        · exact g3 A k l cap hm
      · cases h
    · rename_i e; cases e
theorem dcden_append : ∀ (a b : List DC), dcden (a ++ b) = dcden a ++ dcden b
  | [], b => rfl
  | x :: a, b => by simp [dcden, dcden_append a b]
theorem dcwf_append : ∀ {a b : List DC}, dcwf (a ++ b) → dcwf a ∧ dcwf b
  | [], b, h => ⟨trivial, h⟩
  | .c s :: a, b, h => by
    obtain ⟨h1, h2⟩ := h
    obtain ⟨g1, g2⟩ := dcwf_append (a := a) h2
    exact ⟨⟨h1, g1⟩, g2⟩
  | .d .. :: a, b, h => dcwf_append (a := a) h
theorem dchk_spec {F : Fm} {w : World} : ∀ {f : Nat} {ds : List DC} {l : List F.α}, dchk F f ds = some l → dcwf ds → (∀ A k l cap, DC.d A k l cap ∈ ds → Rd w A (iv k l)) → dcden ds = fden F l ∧ ∀ a ∈ l, F.wf a ∧ fmRd F w a
  | f, [], l, h, _, _ => by
    have h : some ([] : List F.α) = some l := by cases f <;> exact h
    simp only [Option.some.injEq] at h; subst h
    exact ⟨rfl, by simp⟩
  | 0, _ :: _, _, h, _, _ => by simp [dchk] at h
  | f + 1, x :: ds, l, h, hw, hr => by
    simp only [dchk] at h
    split at h
    · rename_i a ha
      obtain ⟨l', hl, rfl⟩ := Option.map_eq_some_iff.1 h
      have e : x :: ds = (x :: ds).take (F.sg F.d).length ++ (x :: ds).drop (F.sg F.d).length := (List.take_append_drop _ _).symm
      generalize hp : (x :: ds).take (F.sg F.d).length = p at ha e
      generalize hq : (x :: ds).drop (F.sg F.d).length = q at hl e
      rw [e] at hw hr
      obtain ⟨w1, w2⟩ := dcwf_append hw
      obtain ⟨o1, o2, o3⟩ := F.hofD _ _ ha
      obtain ⟨g1, g2⟩ := dchk_spec (w := w) hl w2 fun A k l cap hm => hr A k l cap (List.mem_append.2 (.inr hm))
      refine ⟨by rw [e, dcden_append, o1, g1]; rfl, fun b hb => ?_⟩
      rcases List.mem_cons.1 hb with rfl | hb
      · refine ⟨o2 w1, fun o A k l hi => ?_⟩
        obtain ⟨cap, hm⟩ := o3 o A k l hi
        exact hr A k l cap (List.mem_append.2 (.inl hm))
      · exact g2 b hb
    · cases h
theorem arD_spec {S : SS FM} (hS : S.WF) {M : Nat → Prop} {w0 w : World} (H : HS M w0 w S) {j id o n : Nat} {t : Bool} {l : List (FM j).α} {φs : List Prop} (h : arD S j id o n t = some (l, φs)) (hφ : All φs) :
    Rd w (bas S.E id o) (fden (FM j) l) ∧ (∀ a ∈ l, fmRd (FM j) w a) ∧ l.length = n ∧ ∀ a ∈ l, (FM j).wf a := by
  unfold arD at h
  simp only [cond_eq_ite] at h
  split at h
  · rename_i ho
    have := beq_n ho; subst this
    split at h
    · rename_i c φ' hc
      split at h
      · rename_i j' l' m ψ hv
        split at h
        · rename_i hj; subst hj
          simp only [Option.some.injEq, Prod.mk.injEq] at h
          obtain ⟨rfl, rfl⟩ := h
          obtain ⟨rfl, hφ⟩ := hφ
          cases t with
          | false =>
            simp only [cond_false, Option.some.injEq, Prod.mk.injEq, Bool.false_eq_true, if_false] at hv
            obtain ⟨rfl, rfl⟩ := hv
            obtain ⟨⟨q1, q4⟩, q2, q3⟩ := rdR_spec hS.v hS.r H.rd hc hφ
            exact ⟨by simpa [cden, Sg.den] using q1, q4.1, q2.1.1, q2.1.2⟩
          | true =>
            simp only [cond_true, if_true] at hv
            obtain ⟨⟨r, m'⟩, hr, hv⟩ := Option.map_eq_some_iff.1 hv
            simp only [Prod.mk.injEq] at hv
            obtain ⟨rfl, rfl⟩ := hv
            obtain ⟨⟨q1, q4⟩, q2, q3⟩ := rdR_spec hS.v hS.r H.rd hc hφ.2
            obtain ⟨g1, g2, g3⟩ := vcut_spec (E := S.E) (N := S.E.length) hr q2 hφ.1
            refine ⟨?_, (dRd_cut hr q4).1, g2.1.1, g2.1.2⟩
            rw [Nat.zero_mul, List.drop_zero] at g1
            have g1 : (cden S.E c).take (n * (FM j').sz) = fden (FM j') l' := by simpa [cden, Sg.den] using g1
            rw [← g1]
            have e : cden S.E c = (cden S.E c).take (n * (FM j').sz) ++ (cden S.E c).drop (n * (FM j').sz) := (List.take_append_drop _ _).symm
            rw [e] at q1
            exact q1.left
        · cases h
      · cases h
    · split at h
      · rename_i k id' n0 q c e s hp
        obtain ⟨p1, p2, p3⟩ := pcAt_spec (E := S.E) hp
        have hr := pc_rd H.hp hS.b hp
        have hwc : cwf c := mwf_at hS.m p1
        have hds : dsOk w (dsAll S.m ++ dsR S.R) := dsOk_app (dsAll_ok H.hp) (dsR_ok H.rd)
        split at h
        · rename_i l' m hj
          have := rowJ_spec hj; subst this
          have hr2 : Rd w (bas S.E id 0) (fden (FM j) l') := by simpa [Pc.ce, cden, Sg.den] using hr
          have hl : l'.length = m := hwc.1.1
          split at h
          · simp only [Option.some.injEq, Prod.mk.injEq] at h
            obtain ⟨rfl, rfl⟩ := h
            obtain ⟨h1, h2, -⟩ := hφ
            refine ⟨?_, fun a ha => memL_spec (h2 a ha) hds, by simp; omega, fun a ha => hwc.1.2 a (List.mem_of_mem_take ha)⟩
            have e : fden (FM j) l' = fden (FM j) (l'.take n) ++ fden (FM j) (l'.drop n) := by rw [← fden_append, List.take_append_drop]
            rw [e] at hr2
            exact hr2.left
          · simp only [Option.some.injEq, Prod.mk.injEq] at h
            obtain ⟨rfl, rfl⟩ := h
            obtain ⟨rfl, h2, -⟩ := hφ
            exact ⟨hr2, fun a ha => memL_spec (h2 a ha) hds, hl, hwc.1.2⟩
        split at h
        · cases h
        · obtain ⟨⟨ds, φ'⟩, hd, h⟩ := Option.bind_eq_some_iff.1 h
          obtain ⟨l', hl, h⟩ := Option.map_eq_some_iff.1 h
          simp only [Prod.mk.injEq] at h
          obtain ⟨rfl, rfl⟩ := h
          obtain ⟨rfl, h2, h3⟩ := hφ
          obtain ⟨d1, d2, d3⟩ := dcOf_spec hS H hd h3 (mwf_at hS.m p1)
          obtain ⟨g1, g2⟩ := dchk_spec hl d2 d3
          refine ⟨?_, fun a ha => (g2 a ha).2, h2.symm, fun a ha => (g2 a ha).1⟩
          rw [← g1, d1]
          exact hr
      · cases h
  · cases h
/-- A part that is matched: the same value, the same memory. -/
theorem Cm.mch_spec {S : SS FM} (hS : S.WF) {M : Nat → Prop} {w0 w : World} (H : HS M w0 w S) {c : Cm} {s : Sg FM} {x : c.T FM} {φs : List Prop} (h : c.mch S s = some (x, φs)) (hφ : All φs) (hw : s.wf) (hk : s.ok S.E.length = true) (E0 X : List Ad) :
    (c.sg E0.length x).den (E0 ++ ((c.bd E0.length x).1 ++ X)) = s.den S.E ∧ ROk (E0 ++ ((c.bd E0.length x).1 ++ X)) w (c.bd E0.length x).2 ∧ All (c.hy x) ∧ rwf (E0.length + (c.bd E0.length x).1.length) (c.bd E0.length x).2 ∧ (c.sg E0.length x).wf := by
  unfold Cm.mch at h
  split at h
  · simp only [cond_eq_ite] at h
    split at h
    · rename_i hk
      have := of_decide_eq_true hk; subst this
      simp only [Option.some.injEq, Prod.mk.injEq] at h
      obtain ⟨rfl, rfl⟩ := h
      exact ⟨rfl, trivial, trivial, trivial, trivial⟩
    · cases h
  · simp only [Option.some.injEq, Prod.mk.injEq] at h
    obtain ⟨rfl, rfl⟩ := h
    exact ⟨rfl, trivial, trivial, trivial, trivial⟩
  · simp only [Option.some.injEq, Prod.mk.injEq] at h
    obtain ⟨rfl, rfl⟩ := h
    exact ⟨rfl, trivial, trivial, trivial, trivial⟩
  · simp only [cond_eq_ite] at h
    split at h
    · rename_i hk
      simp only [Bool.and_eq_true, decide_eq_true_eq] at hk
      obtain ⟨rfl, hn⟩ := hk
      have := beq_n hn; subst this
      simp only [Option.some.injEq, Prod.mk.injEq] at h
      obtain ⟨rfl, rfl⟩ := h
      exact ⟨rfl, trivial, ⟨hw, trivial⟩, trivial, hw⟩
    · cases h
  · split at h
    · rename_i hj; subst hj
      simp only [cond_eq_ite] at h
      split at h
      · rename_i hn
        have := beq_n hn; subst this
        simp only [Option.some.injEq, Prod.mk.injEq] at h
        obtain ⟨rfl, rfl⟩ := h
        exact ⟨rfl, trivial, ⟨hw.1, hw.2, trivial⟩, trivial, hw⟩
      · cases h
    · cases h
  · simp only [Option.some.injEq, Prod.mk.injEq] at h
    obtain ⟨rfl, rfl⟩ := h
    refine ⟨?_, ⟨⟨Rd.nil _ _, trivial⟩, trivial⟩, ⟨fun _ => rfl, trivial⟩, ⟨⟨Nat.blt_eq.mpr (by simp [Cm.bd]), ⟨rfl, trivial⟩, rfl⟩, trivial⟩, trivial⟩
    simp only [Cm.sg, Sg.den, Sg0.den, S0.den, Cm.bd, List.cons_append, List.nil_append, bas_at]
    rfl
  · obtain ⟨⟨c', φ'⟩, hc, h⟩ := Option.bind_eq_some_iff.1 h
    simp only at h
    split at h
    · rename_i k' l m
      simp only [cond_eq_ite] at h
      split at h
      · rename_i hk
        have := of_decide_eq_true hk; subst this
        simp only [Option.some.injEq, Prod.mk.injEq] at h
        obtain ⟨rfl, rfl⟩ := h
        obtain ⟨rfl, hφ⟩ := hφ
        obtain ⟨q1, q2⟩ := arC_spec hS H hc hφ
        have hl : l.length = _ := q2.1
        refine ⟨?_, ⟨⟨?_, trivial⟩, trivial⟩, ⟨fun hA => ?_, trivial⟩, ⟨⟨Nat.blt_eq.mpr (by simp [Cm.bd]), ⟨rfl, trivial⟩, rfl⟩, trivial⟩, trivial⟩
        · simp only [Cm.sg, Sg.den, Sg0.den, S0.den, Cm.bd, List.cons_append, List.nil_append, bas_at, hl]
        · simp only [Cm.bd, List.cons_append, List.nil_append, bas_at]
          exact q1
        · have hA := Option.isNone_iff_eq_none.1 hA
          simp only at hA
          rw [hA] at q1
          have := q1.none_nil
          simpa [cden, Sg.den, Sg0.den, iv] using this
      · cases h
    · cases h
  · simp only [Option.some.injEq, Prod.mk.injEq] at h
    obtain ⟨rfl, rfl⟩ := h
    refine ⟨?_, ⟨⟨Rd.nil _ _, by simp [Cm.bd, dRd]⟩, trivial⟩, ⟨by simp, trivial⟩, ⟨⟨Nat.blt_eq.mpr (by simp [Cm.bd]), ⟨⟨rfl, by simp⟩, trivial⟩, rfl⟩, trivial⟩, trivial⟩
    simp only [Cm.sg, Sg.den, Sg0.den, S0.den, Cm.bd, List.cons_append, List.nil_append, bas_at]
    rfl
  · simp only [cond_eq_ite] at h
    split at h
    · obtain ⟨⟨l, φ'⟩, hc, h⟩ := Option.map_eq_some_iff.1 h
      simp only [Prod.mk.injEq] at h
      obtain ⟨rfl, rfl⟩ := h
      obtain ⟨q1, q2, hl, hwf⟩ := arD_spec hS H hc hφ
      refine ⟨?_, ⟨⟨?_, q2, trivial⟩, trivial⟩, ⟨hwf, trivial⟩, ⟨⟨Nat.blt_eq.mpr (by simp [Cm.bd]), ⟨⟨rfl, hwf⟩, trivial⟩, rfl⟩, trivial⟩, trivial⟩
      · simp only [Cm.sg, Sg.den, Sg0.den, S0.den, Cm.bd, List.cons_append, List.nil_append, bas_at, hl]
      · simp only [Cm.bd, List.cons_append, List.nil_append, bas_at, cden, Sg.den, List.append_nil]
        exact q1
    rename_i hdeep
    obtain ⟨⟨c', φ'⟩, hc, h⟩ := Option.bind_eq_some_iff.1 h
    simp only at h
    split at h
    · rename_i j' l m
      split at h
      · rename_i hj; subst hj
        simp only [Option.some.injEq, Prod.mk.injEq] at h
        obtain ⟨rfl, rfl⟩ := h
        obtain ⟨rfl, hφ⟩ := hφ
        obtain ⟨q1, q2⟩ := arC_spec hS H hc hφ
        obtain ⟨hl, hwf⟩ := q2.1
        have hflat : (FM j').deep = false := by simpa using hdeep
        refine ⟨?_, ⟨⟨?_, fun a _ => fmRd.flat hflat w a, trivial⟩, trivial⟩, ⟨hwf, trivial⟩, ⟨⟨Nat.blt_eq.mpr (by simp [Cm.bd]), ⟨⟨rfl, hwf⟩, trivial⟩, rfl⟩, trivial⟩, trivial⟩
        · simp only [Cm.sg, Sg.den, Sg0.den, S0.den, Cm.bd, List.cons_append, List.nil_append, bas_at, hl]
        · simp only [Cm.bd, List.cons_append, List.nil_append, bas_at]
          exact q1
      · cases h
    · cases h
  · simp only [Option.some.injEq, Prod.mk.injEq] at h
    obtain ⟨rfl, rfl⟩ := h
    exact ⟨rfl, trivial, trivial, trivial, trivial⟩
  · simp only [cond_eq_ite] at h
    split at h
    · rename_i hb
      obtain ⟨⟨c', φ'⟩, hc, h⟩ := Option.bind_eq_some_iff.1 h
      simp only at h
      split at h
      · rename_i k' l m
        split at h
        · rename_i hk
          simp only [Bool.and_eq_true, decide_eq_true_eq] at hk
          obtain ⟨rfl, hn⟩ := hk
          have := beq_n hn; subst this
          simp only [Option.some.injEq, Prod.mk.injEq] at h
          obtain ⟨rfl, rfl⟩ := h
          obtain ⟨q1, q2, q3⟩ := rdOf_spec hS H hc hφ
          have hl : l.length = _ := q2.1
          have hi : ∀ b, isbk (E0 ++ (.bk b :: X)) E0.length = true := fun b => by unfold isbk; simp
          have hb2 : ∀ b, bno (E0 ++ (.bk b :: X)) E0.length = b := fun b => by unfold bno; simp
          refine ⟨?_, ⟨⟨?_, trivial⟩, trivial⟩, ⟨hl, trivial⟩, ⟨⟨Nat.blt_eq.mpr (by simp [Cm.bd]), ⟨hl, trivial⟩, rfl⟩, trivial⟩, trivial⟩
          · simp only [Cm.sg, Sg.den, Sg0.den, S0.den, Cm.bd, List.cons_append, List.nil_append, plc_bk (hi _), plc_bk hb, hb2]
          · simp only [Cm.bd, List.cons_append, List.nil_append, bas_bk (hi _), hb2]
            rw [bas_bk hb] at q1
            exact q1
        · cases h
      · cases h
    · cases h
  · simp only [cond_eq_ite] at h
    split at h
    · rename_i hp
      simp only [Option.some.injEq, Prod.mk.injEq] at h
      obtain ⟨rfl, rfl⟩ := h
      exact ⟨rfl, trivial, ⟨hp, trivial⟩, trivial, trivial⟩
    · cases h
  · cases h
end
end Go.Px
