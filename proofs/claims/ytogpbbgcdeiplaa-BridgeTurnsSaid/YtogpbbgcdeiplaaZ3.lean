/-
  States that are told by their shape: tables, pieces of memory; and the operations that yield a value. No condition.
-/
import Derived.Test.YtogpbbgcdeiplaaZ2
set_option linter.all false
namespace Go.Px
open Go.RowKit

section
variable {FM : Nat → Fm}

/-- A value: one cell, or many. -/
inductive SV (FM : Nat → Fm) where
  | one (x : S0)
  | ag (c : Ce FM)
/-- What a temporary holds. -/
inductive TV (FM : Nat → Fm) where
  | v (x : SV FM)
  | tup (l : List (SV FM))
  | fn (f : FuncId) (a b : List (SV FM))

def SV.den (E : List Ad) : SV FM → Value
  | .one x => x.den E
  | .ag c => .agg (cden E c).toArray
def SV.wf : SV FM → Prop
  | .one _ => True
  | .ag c => cwf c
def SV.lt (N : Nat) : SV FM → Bool
  | .one x => x.lt N
  | .ag c => cok N c
def TV.den (E : List Ad) : TV FM → Value
  | .v x => x.den E
  | .tup l => .tuple (l.map (SV.den E)).toArray
  | .fn f a b => .func (.func f) (a.map (SV.den E)).toArray (b.map (SV.den E)).toArray
def svwf : List (SV FM) → Prop
  | [] => True
  | x :: l => x.wf ∧ svwf l
def svlt (N : Nat) : List (SV FM) → Bool
  | [] => true
  | x :: l => x.lt N && svlt N l
def TV.wf : TV FM → Prop
  | .v x => x.wf
  | .tup l => svwf l
  | .fn _ a b => svwf a ∧ svwf b
def TV.lt (N : Nat) : TV FM → Bool
  | .v x => x.lt N
  | .tup l => svlt N l
  | .fn _ a b => svlt N a && svlt N b

theorem SV.ext {E X : List Ad} {x : SV FM} (h : x.lt E.length = true) : x.den (E ++ X) = x.den E := by
  cases x with
  | one x => exact S0.ext h
  | ag c => simp only [SV.den, cext (show cok E.length c = true from h)]
theorem svext {E X : List Ad} : ∀ {l : List (SV FM)}, svlt E.length l = true → l.map (SV.den (E ++ X)) = l.map (SV.den E)
  | [], _ => rfl
  | x :: l, h => by
    simp only [svlt, Bool.and_eq_true] at h
    simp only [List.map_cons, SV.ext h.1, svext h.2]
theorem TV.ext {E X : List Ad} {x : TV FM} (h : x.lt E.length = true) : x.den (E ++ X) = x.den E := by
  cases x with
  | v x => exact SV.ext h
  | tup l => simp only [TV.den, svext (show svlt E.length l = true from h)]
  | fn f a b =>
    have h : (svlt E.length a && svlt E.length b) = true := h
    simp only [Bool.and_eq_true] at h
    simp only [TV.den, svext h.1, svext h.2]
theorem SV.lt_mono {n m : Nat} {x : SV FM} (h : x.lt n = true) (hm : n ≤ m) : x.lt m = true := by
  cases x with
  | one x => exact S0.lt_mono h hm
  | ag c => exact cok_mono hm h
theorem svlt_mono {n m : Nat} (hm : n ≤ m) : ∀ {l : List (SV FM)}, svlt n l = true → svlt m l = true
  | [], _ => rfl
  | x :: l, h => by
    simp only [svlt, Bool.and_eq_true] at h ⊢
    exact ⟨SV.lt_mono h.1 hm, svlt_mono hm h.2⟩
theorem TV.lt_mono {n m : Nat} {x : TV FM} (h : x.lt n = true) (hm : n ≤ m) : x.lt m = true := by
  cases x with
  | v x => exact SV.lt_mono h hm
  | tup l => exact svlt_mono hm h
  | fn f a b =>
    have h : (svlt n a && svlt n b) = true := h
    simp only [Bool.and_eq_true] at h
    show (svlt m a && svlt m b) = true
    simp only [Bool.and_eq_true]
    exact ⟨svlt_mono hm h.1, svlt_mono hm h.2⟩

def SV.ce : SV FM → Ce FM
  | .one x => [.b (.cl x)]
  | .ag c => c
theorem SV.ce_den {E : List Ad} (x : SV FM) (h : ∀ y, x = .one y → y.ok = true) : (x.den E).cells = (cden E x.ce).toArray := by
  cases x with
  | ag c => rfl
  | one x =>
    have h1 := S0.one (E := E) (h x rfl)
    simp only [SV.den, SV.ce, cden, Sg.den, Sg0.den]
    generalize x.den E = v at h1
    cases v <;> simp [Value.oneCell', Value.cells] at h1 ⊢

/-- Temporaries: what is known of them; none: it was written, and nothing is known. -/
abbrev ST (FM : Nat → Fm) := List (Nat × Option (TV FM))
def lookS : ST FM → Nat → Option (TV FM)
  | [], _ => none
  | (s, v) :: r, t => bif Nat.beq s t then v else lookS r t
def tden (E : List Ad) : ST FM → Tab
  | [] => []
  | (s, some v) :: r => (s, v.den E) :: tden E r
  | (s, none) :: r => (tden E r).filter fun x => !Nat.beq s x.1
theorem look_filter {s t : Nat} : ∀ (T : Tab), look (T.filter fun x => !Nat.beq s x.1) t = if s = t then none else look T t
  | [] => by simp [look]
  | (u, v) :: r => by
    have ih := look_filter (s := s) (t := t) r
    by_cases h : s = u
    · subst h
      simp only [List.filter_cons, Nat.beq_refl, Bool.not_true, Bool.false_eq_true, if_false, ih, look]
      by_cases e : s = t
      · simp [e]
      · simp [e]
    · have hb : Nat.beq s u = false := by
        cases hb : Nat.beq s u with
        | false => rfl
        | true => exact absurd (beq_n hb) h
      simp only [List.filter_cons, hb, Bool.not_false, if_true, look, ih]
      by_cases e : u = t
      · subst e
        simp [h]
      · simp [e]
theorem lookS_den {E : List Ad} : ∀ (T : ST FM) (t : Nat), look (tden E T) t = (lookS T t).map (TV.den E)
  | [], t => rfl
  | (s, some v) :: r, t => by
    simp only [tden, look, lookS, cond_eq_ite]
    by_cases h : s = t
    · subst h; simp
    · rw [if_neg (by simpa using h), if_neg (by simpa using h)]
      exact lookS_den r t
  | (s, none) :: r, t => by
    simp only [tden, look_filter, lookS, cond_eq_ite]
    by_cases h : s = t
    · subst h; simp
    · rw [if_neg h, if_neg (by simpa using h)]
      exact lookS_den r t

def fmRd (F : Fm) (w : World) (a : F.α) : Prop := ∀ o A k l, F.inn a o = some (A, k, l) → Rd w A (iv k l)
def dRd (w : World) : Ce FM → Prop
  | [] => True
  | .f j l _ :: c => (∀ a ∈ l, fmRd (FM j) w a) ∧ dRd w c
  | .b _ :: c => dRd w c
theorem fmRd.flat {F : Fm} (h : F.deep = false) (w : World) (a : F.α) : fmRd F w a := fun o A k l e => by rw [F.hdp h] at e; cases e
theorem dRd.keep {w w' : World} (k : Keep w w') : ∀ {c : Ce FM}, dRd w c → dRd w' c
  | [], _ => trivial
  | .f _ _ _ :: _, h => ⟨fun a ha o A q l e => (h.1 a ha o A q l e).keep k, dRd.keep k h.2⟩
  | .b _ :: c, h => dRd.keep (c := c) k h
def ROk (E : List Ad) (w : World) : List (Nat × Ce FM) → Prop
  | [] => True
  | (id, c) :: r => (Rd w (bas E id 0) (cden E c) ∧ dRd w c) ∧ ROk E w r
def dsOk (w : World) : List (Ce FM) → Prop
  | [] => True
  | c :: r => dRd w c ∧ dsOk w r
def rslt (N : Nat) : List (Nat × Ce FM) → Bool
  | [] => true
  | (id, c) :: r => (Nat.blt id N && cok N c) && rslt N r
def rswf : List (Nat × Ce FM) → Prop
  | [] => True
  | (_, c) :: r => cwf c ∧ rswf r
theorem ROk_same {E X : List Ad} {w : World} : ∀ {r : List (Nat × Ce FM)}, rslt E.length r = true → ROk (E ++ X) w r = ROk E w r
  | [], _ => rfl
  | (id, c) :: r, h => by
    simp only [rslt, Bool.and_eq_true] at h
    simp only [ROk, bas_ext h.1.1, cext h.1.2, ROk_same h.2]
/-- A piece of memory. -/
inductive Pc (FM : Nat → Fm) where
  | bk (id : Nat) (c : Ce FM) (ty : TypeId)
  | sl (id n cap : Nat) (c : Ce FM) (e s : Nat)
  | rd (id : Nat) (c : Ce FM)
  | pr (φ : World → Prop)
  | lp (id : Nat) (r : Loop) (st : LoopState) (pd : Option Code)
  | mk (id : Nat) (shut : Bool)
  | fz (rs : List (Nat × Ce FM)) (ds : List (Ce FM))
  | mp (id n : Nat) (l : List (List Int × Int))
def Pc.den (E : List Ad) : Pc FM → Ent
  | .bk id c ty => .bk (bno E id) (row (cden E c) ty)
  | .sl id n cap c e s => .sl (bas E id 0) n cap (cden E c) e s
  | .rd id c => .pr fun w => Rd w (bas E id 0) (cden E c)
  | .pr φ => .pr φ
  | .lp id r st pd => .bk (bno E id) (.loop { r with state := st, pending := pd })
  | .mk id b => .bk (bno E id) (.deferred (bif b then none else some []))
  | .fz rs ds => .pr fun w => ROk E w rs ∧ dsOk w ds
  | .mp id _ l => .bk (bno E id) (mObj l)
def Pc.wf : Pc FM → Prop
  | .bk _ c _ => cwf c
  | .sl _ _ _ c _ _ => cwf c
  | .rd _ c => cwf c
  | .pr _ => True
  | .lp _ _ _ _ => True
  | .mk _ _ => True
  | .fz rs _ => rswf rs
  | .mp _ n l => ∀ p ∈ l, p.1.length = n
def Pc.lt (N : Nat) : Pc FM → Bool
  | .bk id c _ => Nat.blt id N && cok N c
  | .sl id _ _ c _ _ => Nat.blt id N && cok N c
  | .rd id c => Nat.blt id N && cok N c
  | .pr _ => true
  | .lp id _ _ _ => Nat.blt id N
  | .mk id _ => Nat.blt id N
  | .fz rs _ => rslt N rs
  | .mp id _ _ => Nat.blt id N
def Pc.id? : Pc FM → Option Nat
  | .bk id _ _ => some id
  | .sl id _ _ _ _ _ => some id
  | .rd id _ => some id
  | .pr _ => none
  | .lp id _ _ _ => some id
  | .mk id _ => some id
  | .fz _ _ => none
  | .mp id _ _ => some id
def Pc.ce : Pc FM → Ce FM
  | .bk _ c _ => c
  | .sl _ _ _ c _ _ => c
  | .rd _ c => c
  | .pr _ => []
  | .lp _ _ _ _ => []
  | .mk _ _ => []
  | .fz _ _ => []
  | .mp _ _ _ => []
theorem Pc.ext {E X : List Ad} {p : Pc FM} (h : p.lt E.length = true) : p.den (E ++ X) = p.den E := by
  cases p with
  | bk id c ty =>
    have h : (Nat.blt id E.length && cok E.length c) = true := h
    simp only [Bool.and_eq_true] at h
    simp only [Pc.den, bno_ext h.1, cext h.2]
  | sl id n cap c e s =>
    have h : (Nat.blt id E.length && cok E.length c) = true := h
    simp only [Bool.and_eq_true] at h
    simp only [Pc.den, bas_ext h.1, cext h.2]
  | rd id c =>
    have h : (Nat.blt id E.length && cok E.length c) = true := h
    simp only [Bool.and_eq_true] at h
    simp only [Pc.den, bas_ext h.1, cext h.2]
  | pr φ => rfl
  | lp id r st pd => simp only [Pc.den, bno_ext (show Nat.blt id E.length = true from h)]
  | mk id b => simp only [Pc.den, bno_ext (show Nat.blt id E.length = true from h)]
  | fz rs ds => simp only [Pc.den, ROk_same (show rslt E.length rs = true from h)]
  | mp id n l => simp only [Pc.den, bno_ext (show Nat.blt id E.length = true from h)]
theorem blt_mono {a n m : Nat} (h : Nat.blt a n = true) (hm : n ≤ m) : Nat.blt a m = true := by
  have := Nat.blt_eq.mp h; exact Nat.blt_eq.mpr (by omega)
theorem rslt_mono {n m : Nat} (hm : n ≤ m) : ∀ {r : List (Nat × Ce FM)}, rslt n r = true → rslt m r = true
  | [], _ => rfl
  | (id, c) :: r, h => by
    simp only [rslt, Bool.and_eq_true] at h ⊢
    exact ⟨⟨blt_mono h.1.1 hm, cok_mono hm h.1.2⟩, rslt_mono hm h.2⟩
theorem Pc.lt_mono {n m : Nat} {p : Pc FM} (h : p.lt n = true) (hm : n ≤ m) : p.lt m = true := by
  cases p with
  | bk id c ty =>
    have h : (Nat.blt id n && cok n c) = true := h
    simp only [Bool.and_eq_true] at h
    simp only [Pc.lt, Bool.and_eq_true]; exact ⟨blt_mono h.1 hm, cok_mono hm h.2⟩
  | sl id _ cap c e s =>
    have h : (Nat.blt id n && cok n c) = true := h
    simp only [Bool.and_eq_true] at h
    simp only [Pc.lt, Bool.and_eq_true]; exact ⟨blt_mono h.1 hm, cok_mono hm h.2⟩
  | rd id c =>
    have h : (Nat.blt id n && cok n c) = true := h
    simp only [Bool.and_eq_true] at h
    simp only [Pc.lt, Bool.and_eq_true]; exact ⟨blt_mono h.1 hm, cok_mono hm h.2⟩
  | pr φ => rfl
  | lp id r st pd => exact blt_mono (show Nat.blt id n = true from h) hm
  | mk id b => exact blt_mono (show Nat.blt id n = true from h) hm
  | fz rs ds => exact rslt_mono hm (show rslt n rs = true from h)
  | mp id k l => exact blt_mono (show Nat.blt id n = true from h) hm

/-- A slice's slice: where it begins in the other, how many elements of what size. -/
structure Vw where
  id : Nat
  base : Nat
  lo : Nat
  mx : Nat
  n : Nat
  sz : Nat

structure SS (FM : Nat → Fm) where
  T : ST FM
  E : List Ad
  m : List (Pc FM)
  V : List Vw
  R : List (Nat × Ce FM)

def SS.Td (S : SS FM) : Tab := tden S.E S.T
def mden (E : List Ad) : List (Pc FM) → Mem
  | [] => []
  | p :: m => p.den E :: mden E m
def SS.md (S : SS FM) : Mem := mden S.E S.m
def otwf : Option (TV FM) → Prop
  | some v => v.wf
  | none => True
def otlt (N : Nat) : Option (TV FM) → Bool
  | some v => v.lt N
  | none => true
def stwf : ST FM → Prop
  | [] => True
  | (_, v) :: r => otwf v ∧ stwf r
def stlt (N : Nat) : ST FM → Bool
  | [] => true
  | (_, v) :: r => otlt N v && stlt N r
def mwf : List (Pc FM) → Prop
  | [] => True
  | p :: m => p.wf ∧ mwf m
def mlt (N : Nat) : List (Pc FM) → Bool
  | [] => true
  | p :: m => p.lt N && mlt N m
def vwf (E : List Ad) : List Vw → Prop
  | [] => True
  | v :: l => (bas E v.id 0 = slA (bas E v.base 0) v.lo v.mx v.sz ∧ v.lo + v.n ≤ v.mx ∧ Nat.blt v.id E.length = true ∧ Nat.blt v.base E.length = true) ∧ vwf E l
def isbk (E : List Ad) (id : Nat) : Bool := match E[id]? with
  | some (.bk _) => true
  | _ => false
def Pc.bkok (E : List Ad) : Pc FM → Bool
  | .bk id _ _ => isbk E id
  | .lp id _ _ _ => isbk E id
  | .mk id _ => isbk E id
  | .mp id _ _ => isbk E id
  | _ => true
def mbk (E : List Ad) : List (Pc FM) → Bool
  | [] => true
  | p :: m => p.bkok E && mbk E m
theorem isbk_ext {E X : List Ad} {id : Nat} (h : isbk E id = true) : isbk (E ++ X) id = true := by
  have hl : id < E.length := by
    rcases Nat.lt_or_ge id E.length with h' | h'
    · exact h'
    · unfold isbk at h; rw [List.getElem?_eq_none h'] at h; cases h
  unfold isbk at h ⊢; rw [List.getElem?_append_left hl]; exact h
theorem bas_bk {E : List Ad} {id : Nat} (h : isbk E id = true) (o : Nat) : bas E id o = some ⟨bno E id, o, none⟩ := by
  unfold isbk at h
  unfold bas bno
  split at h
  · rename_i b hb; rw [hb]
  · cases h
theorem plc_adr (E : List Ad) (id off : Nat) : plc E id off = adr (bas E id 0) off := by
  unfold plc bas
  split
  · rw [adr_some, Nat.zero_add]
  · rfl
  · unfold adr Addr.add; by_cases h : off = 0 <;> simp [h]
theorem mbk_ext {E X : List Ad} : ∀ {m : List (Pc FM)}, mbk E m = true → mbk (E ++ X) m = true
  | [], _ => rfl
  | p :: m, h => by
    simp only [mbk, Bool.and_eq_true] at h ⊢
    refine ⟨?_, mbk_ext h.2⟩
    cases p with
    | bk id c ty => exact isbk_ext h.1
    | lp id => exact isbk_ext h.1
    | mk id => exact isbk_ext h.1
    | mp id => exact isbk_ext h.1
    | sl => rfl
    | rd => rfl
    | pr => rfl
    | fz => rfl
theorem mbk_at {E : List Ad} : ∀ {m : List (Pc FM)} {k : Nat} {p : Pc FM}, mbk E m = true → m[k]? = some p → p.bkok E = true
  | [], _, _, _, h => by simp at h
  | q :: m, 0, p, hw, h => by
    simp only [mbk, Bool.and_eq_true] at hw
    simp only [List.getElem?_cons_zero, Option.some.injEq] at h; subst h; exact hw.1
  | q :: m, k + 1, p, hw, h => by
    simp only [mbk, Bool.and_eq_true] at hw
    exact mbk_at hw.2 (by simpa using h)
theorem mbk_set {E : List Ad} : ∀ {m : List (Pc FM)} {k : Nat} {p : Pc FM}, mbk E m = true → p.bkok E = true → mbk E (m.set k p) = true
  | [], _, _, _, _ => rfl
  | q :: m, 0, p, h, hp => by
    simp only [mbk, Bool.and_eq_true] at h
    simp only [List.set_cons_zero, mbk, Bool.and_eq_true]; exact ⟨hp, h.2⟩
  | q :: m, k + 1, p, h, hp => by
    simp only [mbk, Bool.and_eq_true] at h
    simp only [List.set_cons_succ, mbk, Bool.and_eq_true]; exact ⟨h.1, mbk_set h.2 hp⟩

/-- What was handed in to be read. -/
def rwf (N : Nat) : List (Nat × Ce FM) → Prop
  | [] => True
  | (id, c) :: r => (Nat.blt id N = true ∧ cwf c ∧ cok N c = true) ∧ rwf N r
theorem rwf_mono {n m : Nat} (hm : n ≤ m) : ∀ {r : List (Nat × Ce FM)}, rwf n r → rwf m r
  | [], _ => trivial
  | (id, c) :: r, h => ⟨⟨blt_mono h.1.1 hm, h.1.2.1, cok_mono hm h.1.2.2⟩, rwf_mono hm h.2⟩
def rAt : List (Nat × Ce FM) → Nat → Option (Ce FM)
  | [], _ => none
  | (j, c) :: r, id => bif Nat.beq j id then some c else rAt r id
theorem rAt_spec {E : List Ad} {w : World} {N : Nat} : ∀ {r : List (Nat × Ce FM)} {id : Nat} {c : Ce FM}, rAt r id = some c → ROk E w r → rwf N r → (Rd w (bas E id 0) (cden E c) ∧ dRd w c) ∧ cwf c ∧ cok N c = true
  | [], _, _, h, _, _ => by simp [rAt] at h
  | (j, d) :: r, id, c, h, h1, h2 => by
    simp only [rAt, cond_eq_ite] at h
    split at h
    · rename_i hj
      have := beq_n hj; subst this
      simp only [Option.some.injEq] at h; subst h
      exact ⟨h1.1, h2.1.2⟩
    · exact rAt_spec h h1.2 h2.2
theorem ROk_ext {E X : List Ad} {w : World} : ∀ {r : List (Nat × Ce FM)}, rwf E.length r → ROk E w r → ROk (E ++ X) w r
  | [], _, _ => trivial
  | (id, c) :: r, h, hr => ⟨⟨by rw [bas_ext h.1.1, cext h.1.2.2]; exact hr.1.1, hr.1.2⟩, ROk_ext h.2 hr.2⟩

structure SS.WF (S : SS FM) : Prop where
  b : mbk S.E S.m = true
  r : rwf S.E.length S.R
  t : stwf S.T
  tl : stlt S.E.length S.T = true
  m : mwf S.m
  ml : mlt S.E.length S.m = true
  v : vwf S.E S.V

theorem stwf_look : ∀ {T : ST FM} {t : Nat} {v : TV FM}, stwf T → lookS T t = some v → v.wf
  | [], _, _, _, h => by simp [lookS] at h
  | (s, u) :: r, t, v, hw, h => by
    simp only [lookS, cond_eq_ite] at h
    split at h
    · subst h; exact hw.1
    · exact stwf_look hw.2 h
theorem stlt_look {N : Nat} : ∀ {T : ST FM} {t : Nat} {v : TV FM}, stlt N T = true → lookS T t = some v → v.lt N = true
  | [], _, _, _, h => by simp [lookS] at h
  | (s, u) :: r, t, v, hw, h => by
    simp only [stlt, Bool.and_eq_true] at hw
    simp only [lookS, cond_eq_ite] at h
    split at h
    · subst h; exact hw.1
    · exact stlt_look hw.2 h
theorem tden_ext {E X : List Ad} : ∀ {T : ST FM}, stlt E.length T = true → tden (E ++ X) T = tden E T
  | [], _ => rfl
  | (s, some v) :: r, h => by
    simp only [stlt, Bool.and_eq_true] at h
    simp only [tden, TV.ext (show v.lt E.length = true from h.1), tden_ext h.2]
  | (s, none) :: r, h => by
    simp only [stlt, Bool.and_eq_true] at h
    simp only [tden, tden_ext h.2]
theorem stlt_mono {n m : Nat} (hm : n ≤ m) : ∀ {T : ST FM}, stlt n T = true → stlt m T = true
  | [], _ => rfl
  | (s, some v) :: r, h => by
    simp only [stlt, Bool.and_eq_true] at h ⊢
    exact ⟨TV.lt_mono (show v.lt n = true from h.1) hm, stlt_mono hm h.2⟩
  | (s, none) :: r, h => by
    simp only [stlt, Bool.and_eq_true] at h ⊢
    exact ⟨rfl, stlt_mono hm h.2⟩
theorem mden_ext {E X : List Ad} : ∀ {m : List (Pc FM)}, mlt E.length m = true → mden (E ++ X) m = mden E m
  | [], _ => rfl
  | p :: m, h => by
    simp only [mlt, Bool.and_eq_true] at h
    simp only [mden, Pc.ext h.1, mden_ext h.2]
theorem mlt_mono {n k : Nat} (hm : n ≤ k) : ∀ {m : List (Pc FM)}, mlt n m = true → mlt k m = true
  | [], _ => rfl
  | p :: m, h => by
    simp only [mlt, Bool.and_eq_true] at h ⊢
    exact ⟨Pc.lt_mono h.1 hm, mlt_mono hm h.2⟩
theorem vwf_ext {E X : List Ad} : ∀ {V : List Vw}, vwf E V → vwf (E ++ X) V
  | [], _ => trivial
  | v :: l, h => by
    obtain ⟨⟨h1, h2, h3, h4⟩, h5⟩ := h
    refine ⟨⟨?_, h2, blt_mono h3 (by simp), blt_mono h4 (by simp)⟩, vwf_ext h5⟩
    rw [bas_ext h3, bas_ext h4]; exact h1

/-- A piece, and where it stands. -/
def pcAt : List (Pc FM) → Nat → Option (Nat × Pc FM)
  | [], _ => none
  | p :: m, id => match p.id? with
    | some j => bif Nat.beq j id then some (0, p) else (pcAt m id).map fun (k, q) => (k + 1, q)
    | none => (pcAt m id).map fun (k, q) => (k + 1, q)
theorem pcAt_spec {E : List Ad} : ∀ {m : List (Pc FM)} {id k : Nat} {p : Pc FM}, pcAt m id = some (k, p) → m[k]? = some p ∧ (mden E m)[k]? = some (p.den E) ∧ p.id? = some id
  | [], _, _, _, h => by simp [pcAt] at h
  | q :: m, id, k, p, h => by
    simp only [pcAt] at h
    have rec_ : ∀ {o}, Option.map (fun (x : Nat × Pc FM) => (x.1 + 1, x.2)) (pcAt m id) = some o → o = (k, p) → (q :: m)[k]? = some p ∧ (mden E (q :: m))[k]? = some (p.den E) ∧ p.id? = some id := by
      intro o ho e
      subst e
      obtain ⟨⟨k', q'⟩, hr, h⟩ := Option.map_eq_some_iff.1 ho
      simp only [Prod.mk.injEq] at h
      obtain ⟨rfl, rfl⟩ := h
      obtain ⟨h1, h2, h3⟩ := pcAt_spec hr
      exact ⟨by simpa using h1, by simpa [mden] using h2, h3⟩
    split at h
    · rename_i j hj
      simp only [cond_eq_ite] at h
      split at h
      · rename_i hc
        have := beq_n hc; subst this
        simp only [Option.some.injEq, Prod.mk.injEq] at h
        obtain ⟨rfl, rfl⟩ := h
        exact ⟨rfl, rfl, hj⟩
      · exact rec_ h rfl
    · exact rec_ h rfl
theorem mwf_at : ∀ {m : List (Pc FM)} {k : Nat} {p : Pc FM}, mwf m → m[k]? = some p → p.wf
  | [], _, _, _, h => by simp at h
  | q :: m, 0, p, hw, h => by simp only [List.getElem?_cons_zero, Option.some.injEq] at h; subst h; exact hw.1
  | q :: m, k + 1, p, hw, h => mwf_at hw.2 (by simpa using h)
theorem mlt_at {N : Nat} : ∀ {m : List (Pc FM)} {k : Nat} {p : Pc FM}, mlt N m = true → m[k]? = some p → p.lt N = true
  | [], _, _, _, h => by simp at h
  | q :: m, 0, p, hw, h => by
    simp only [mlt, Bool.and_eq_true] at hw
    simp only [List.getElem?_cons_zero, Option.some.injEq] at h; subst h; exact hw.1
  | q :: m, k + 1, p, hw, h => by
    simp only [mlt, Bool.and_eq_true] at hw
    exact mlt_at hw.2 (by simpa using h)
theorem mden_set {E : List Ad} : ∀ {m : List (Pc FM)} {k : Nat} {p : Pc FM}, mden E (m.set k p) = (mden E m).set k (p.den E)
  | [], _, _ => rfl
  | q :: m, 0, p => rfl
  | q :: m, k + 1, p => by simp only [List.set_cons_succ, mden, mden_set (m := m)]
theorem mwf_set : ∀ {m : List (Pc FM)} {k : Nat} {p : Pc FM}, mwf m → p.wf → mwf (m.set k p)
  | [], _, _, _, _ => trivial
  | q :: m, 0, p, h, hp => ⟨hp, h.2⟩
  | q :: m, k + 1, p, h, hp => ⟨h.1, mwf_set h.2 hp⟩
theorem mlt_set {N : Nat} : ∀ {m : List (Pc FM)} {k : Nat} {p : Pc FM}, mlt N m = true → p.lt N = true → mlt N (m.set k p) = true
  | [], _, _, _, _ => rfl
  | q :: m, 0, p, h, hp => by
    simp only [mlt, Bool.and_eq_true] at h
    simp only [List.set_cons_zero, mlt, Bool.and_eq_true]; exact ⟨hp, h.2⟩
  | q :: m, k + 1, p, h, hp => by
    simp only [mlt, Bool.and_eq_true] at h
    simp only [List.set_cons_succ, mlt, Bool.and_eq_true]; exact ⟨h.1, mlt_set h.2 hp⟩

/-! ### What a piece reads as -/
theorem Rd.bkr {M : Nat → Prop} {w0 w : World} {m : Mem} (H : Hp M w0 w m) {k b T : Nat} {cs : List Value} (hm : m[k]? = some (.bk b (row cs T))) : Rd w (some ⟨b, 0, none⟩) cs :=
  Rd.of_ent H (off := 0) (n := cs.length) hm (by simp)

/-- Of cells, the elements from one on. -/
def vcut (c : Ce FM) (lo n sz : Nat) : Option (Ce FM × Nat) := match c with
  | [.b (.iz k l m)] => bif Nat.beq sz 1 then some ([.b (.iz k ((l.drop lo).take n) n)], m) else none
  | [.f j l m] => bif Nat.beq sz (FM j).sz then some ([.f j ((l.drop lo).take n) n], m) else none
  | _ => none
theorem fden_drop {F : Fm} : ∀ {l : List F.α} (n : Nat), (∀ a ∈ l, F.wf a) → fden F (l.drop n) = (fden F l).drop (n * F.sz)
  | l, 0, _ => by simp
  | [], n + 1, _ => by simp [fden]
  | a :: l, n + 1, h => by
    have h1 := c0len (E := []) ((F.hwf a).1 (h a (by simp)))
    rw [F.hsz] at h1
    have ih := fden_drop (F := F) (l := l) n (fun b hb => h b (by simp [hb]))
    simp only [List.drop_succ_cons, fden, Nat.succ_mul]
    rw [ih, List.drop_append, show (c0den [] (F.sg a)).drop (n * F.sz + F.sz) = [] from List.drop_of_length_le (by omega), List.nil_append, h1]
    congr 1; omega
theorem fden_take {F : Fm} : ∀ {l : List F.α} (n : Nat), (∀ a ∈ l, F.wf a) → fden F (l.take n) = (fden F l).take (n * F.sz)
  | l, 0, _ => by simp [fden]
  | [], n + 1, _ => by simp [fden]
  | a :: l, n + 1, h => by
    have h1 := c0len (E := []) ((F.hwf a).1 (h a (by simp)))
    rw [F.hsz] at h1
    have ih := fden_take (F := F) (l := l) n (fun b hb => h b (by simp [hb]))
    simp only [List.take_succ_cons, fden, Nat.succ_mul]
    rw [ih, List.take_append, show (c0den [] (F.sg a)).take (n * F.sz + F.sz) = c0den [] (F.sg a) from List.take_of_length_le (by omega), h1]
    congr 2; omega
theorem vcut_spec {E : List Ad} {N : Nat} {c r : Ce FM} {lo n sz m : Nat} (h : vcut c lo n sz = some (r, m)) (hw : cwf c) (hn : lo + n ≤ m) :
    ((cden E c).drop (lo * sz)).take (n * sz) = cden E r ∧ cwf r ∧ cok N r = true := by
  unfold vcut at h
  split at h
  · rename_i k l m'
    simp only [cond_eq_ite] at h
    split at h
    · rename_i hc
      have := beq_n hc; subst this
      simp only [Option.some.injEq, Prod.mk.injEq] at h
      obtain ⟨rfl, rfl⟩ := h
      have hw : l.length = m' := hw.1
      refine ⟨by simp [cden, Sg.den, Sg0.den, iv, List.map_drop, List.map_take], ⟨?_, trivial⟩, rfl⟩
      simp [Sg.wf, Sg0.wf]; omega
    · cases h
  · rename_i j l m'
    simp only [cond_eq_ite] at h
    split at h
    · rename_i hc
      have := beq_n hc; subst this
      simp only [Option.some.injEq, Prod.mk.injEq] at h
      obtain ⟨rfl, rfl⟩ := h
      obtain ⟨h1, h2⟩ := hw.1
      refine ⟨?_, ⟨⟨by simp; omega, fun a ha => h2 a (List.mem_of_mem_drop (List.mem_of_mem_take ha))⟩, trivial⟩, rfl⟩
      simp only [cden, Sg.den, List.append_nil]
      rw [fden_take n (fun a ha => h2 a (List.mem_of_mem_drop ha)), fden_drop lo h2]
    · cases h
  · cases h

def viewOf : List Vw → Nat → Option Vw
  | [], _ => none
  | v :: l, id => bif Nat.beq v.id id then some v else viewOf l id
theorem viewOf_spec {E : List Ad} : ∀ {V : List Vw} {id : Nat} {v : Vw}, viewOf V id = some v → vwf E V → v.id = id ∧ bas E id 0 = slA (bas E v.base 0) v.lo v.mx v.sz ∧ v.lo + v.n ≤ v.mx
  | [], _, _, h, _ => by simp [viewOf] at h
  | u :: l, id, v, h, hw => by
    simp only [viewOf, cond_eq_ite] at h
    split at h
    · rename_i hc
      have := beq_n hc; subst this
      simp only [Option.some.injEq] at h; subst h
      exact ⟨rfl, hw.1.1, hw.1.2.1⟩
    · exact viewOf_spec h hw.2

/-- The content of what is no longer written. -/
def fzAt : List (Pc FM) → Nat → Option (Ce FM)
  | [], _ => none
  | .fz rs _ :: m, id => match rAt rs id with
    | some c => some c
    | none => fzAt m id
  | _ :: m, id => fzAt m id
/-- The cells behind an address, and what must hold. -/
def rdOf (m : List (Pc FM)) (V : List Vw) (R : List (Nat × Ce FM)) : Nat → Nat → Option (Ce FM × List Prop)
  | 0, _ => none
  | f + 1, id => match pcAt m id with
    | some (_, p) => some (p.ce, [])
    | none => match rAt R id with
      | some c => some (c, [])
      | none => match fzAt m id with
      | some c => some (c, [])
      | none => match viewOf V id with
      | some v => (rdOf m V R f v.base).bind fun (c, φs) => (vcut c v.lo v.n v.sz).map fun (r, k) => (r, (v.lo + v.n ≤ k) :: φs)
      | none => none

def All : List Prop → Prop
  | [] => True
  | p :: l => p ∧ All l
theorem All_append : ∀ {a b : List Prop}, All (a ++ b) ↔ All a ∧ All b
  | [], b => by simp [All]
  | p :: a, b => by simp [All, All_append (a := a), and_assoc]

theorem pc_rd {M : Nat → Prop} {w0 w : World} {E : List Ad} {m : List (Pc FM)} (H : Hp M w0 w (mden E m)) (hb : mbk E m = true) {k id : Nat} {p : Pc FM} (h : pcAt m id = some (k, p)) :
    Rd w (bas E id 0) (cden E p.ce) := by
  obtain ⟨h1, h2, hi⟩ := pcAt_spec (E := E) h
  have hbk := mbk_at hb h1
  cases p with
  | bk id' c ty =>
    simp only [Pc.id?, Option.some.injEq] at hi; subst hi
    rw [bas_bk hbk]
    exact Rd.bkr H h2
  | sl id' n cap c e s =>
    simp only [Pc.id?, Option.some.injEq] at hi; subst hi
    exact Rd.sl H k h2
  | rd id' c =>
    simp only [Pc.id?, Option.some.injEq] at hi; subst hi
    exact H.pr k h2
  | pr φ => simp [Pc.id?] at hi
  | lp id' r st pd => exact Rd.nil _ _
  | mk id' b => exact Rd.nil _ _
  | mp id' n l => exact Rd.nil _ _
  | fz rs ds => simp [Pc.id?] at hi

/-- What holds of memory. -/
structure HS (M : Nat → Prop) (w0 w : World) (S : SS FM) : Prop where
  hp : Hp M w0 w S.md
  rd : ROk S.E w S.R

theorem rwf_of {N : Nat} : ∀ {r : List (Nat × Ce FM)}, rswf r → rslt N r = true → rwf N r
  | [], _, _ => trivial
  | (id, c) :: r, h, k => by
    simp only [rslt, Bool.and_eq_true] at k
    exact ⟨⟨k.1.1, h.1, k.1.2⟩, rwf_of h.2 k.2⟩
theorem fzAt_spec {M : Nat → Prop} {w0 w : World} {E : List Ad} {N : Nat} : ∀ {m : List (Pc FM)} {id : Nat} {c : Ce FM}, fzAt m id = some c → Hp M w0 w (mden E m) → mwf m → mlt N m = true →
    (Rd w (bas E id 0) (cden E c) ∧ dRd w c) ∧ cwf c ∧ cok N c = true
  | [], _, _, h, _, _, _ => by simp [fzAt] at h
  | p :: m, id, c, h, H, hw, hl => by
    have hl' := hl
    simp only [mlt, Bool.and_eq_true] at hl'
    have rec_ : fzAt m id = some c → (Rd w (bas E id 0) (cden E c) ∧ dRd w c) ∧ cwf c ∧ cok N c = true := fun h => fzAt_spec h (H.sub (List.sublist_cons_self _ _)) hw.2 hl'.2
    cases p with
    | fz rs ds =>
      simp only [fzAt] at h
      split at h
      · rename_i c' hc
        simp only [Option.some.injEq] at h; subst h
        exact rAt_spec hc (H.pr 0 rfl).1 (rwf_of hw.1 hl'.1)
      · exact rec_ h
    | _ => exact rec_ h

theorem rdOf_spec {S : SS FM} (hS : S.WF) {M : Nat → Prop} {w0 w : World} (H : HS M w0 w S) : ∀ {f id : Nat} {c : Ce FM} {φs : List Prop}, rdOf S.m S.V S.R f id = some (c, φs) → All φs →
    Rd w (bas S.E id 0) (cden S.E c) ∧ cwf c ∧ cok S.E.length c = true
  | 0, _, _, _, h, _ => by simp [rdOf] at h
  | f + 1, id, c, φs, h, hφ => by
    simp only [rdOf] at h
    split at h
    · rename_i k p hp
      simp only [Option.some.injEq, Prod.mk.injEq] at h
      obtain ⟨rfl, rfl⟩ := h
      obtain ⟨h1, h2, h3⟩ := pcAt_spec (E := S.E) hp
      have hw := mwf_at hS.m h1
      have hl := mlt_at hS.ml h1
      refine ⟨pc_rd H.hp hS.b hp, ?_, ?_⟩
      · cases p <;> first | exact hw | trivial
      · cases p with
        | bk id c ty => have hl : (Nat.blt id S.E.length && cok S.E.length c) = true := hl; simp only [Bool.and_eq_true] at hl; exact hl.2
        | sl id n cap c e s => have hl : (Nat.blt id S.E.length && cok S.E.length c) = true := hl; simp only [Bool.and_eq_true] at hl; exact hl.2
        | rd id c => have hl : (Nat.blt id S.E.length && cok S.E.length c) = true := hl; simp only [Bool.and_eq_true] at hl; exact hl.2
        | pr φ => rfl
        | lp id r st pd => rfl
        | mk id b => rfl
        | mp id n l => rfl
        | fz rs ds => rfl
    · split at h
      · rename_i c' hc'
        simp only [Option.some.injEq, Prod.mk.injEq] at h
        obtain ⟨rfl, rfl⟩ := h
        obtain ⟨⟨z1, -⟩, z2⟩ := rAt_spec hc' H.rd hS.r
        exact ⟨z1, z2⟩
      split at h
      · rename_i c' hc'
        simp only [Option.some.injEq, Prod.mk.injEq] at h
        obtain ⟨rfl, rfl⟩ := h
        obtain ⟨⟨z1, -⟩, z2⟩ := fzAt_spec hc' H.hp hS.m hS.ml
        exact ⟨z1, z2⟩
      split at h
      · rename_i v hv
        obtain ⟨⟨c', φ'⟩, hc, h⟩ := Option.bind_eq_some_iff.1 h
        obtain ⟨⟨r, k⟩, hr, h⟩ := Option.map_eq_some_iff.1 h
        simp only [Prod.mk.injEq] at h
        obtain ⟨rfl, rfl⟩ := h
        obtain ⟨h1, h2, h3⟩ := viewOf_spec hv hS.v
        obtain ⟨q1, q2, q3⟩ := rdOf_spec hS H hc hφ.2
        obtain ⟨g1, g2, g3⟩ := vcut_spec (E := S.E) (N := S.E.length) hr q2 hφ.1
        refine ⟨?_, g2, g3⟩
        rw [h2]
        refine q1.slA (k := v.n * v.sz) (by omega) g1 fun e => ?_
        have : v.n = 0 := by omega
        rw [this] at g1
        rw [← g1]; simp
      · cases h

/-- The cells behind an address that was handed in to be read. -/
def rdR (V : List Vw) (R : List (Nat × Ce FM)) : Nat → Nat → Option (Ce FM × List Prop)
  | 0, _ => none
  | f + 1, id => match rAt R id with
    | some c => some (c, [])
    | none => match viewOf V id with
      | some v => (rdR V R f v.base).bind fun (c, φs) => (vcut c v.lo v.n v.sz).map fun (r, k) => (r, (v.lo + v.n ≤ k) :: φs)
      | none => none
theorem dRd_cut {w : World} {c r : Ce FM} {lo n sz m : Nat} (h : vcut c lo n sz = some (r, m)) (hd : dRd w c) : dRd w r := by
  unfold vcut at h
  split at h
  · simp only [cond_eq_ite] at h
    split at h
    · simp only [Option.some.injEq, Prod.mk.injEq] at h
      obtain ⟨rfl, rfl⟩ := h
      trivial
    · cases h
  · simp only [cond_eq_ite] at h
    split at h
    · simp only [Option.some.injEq, Prod.mk.injEq] at h
      obtain ⟨rfl, rfl⟩ := h
      exact ⟨fun a ha => hd.1 a (List.mem_of_mem_drop (List.mem_of_mem_take ha)), trivial⟩
    · cases h
  · cases h
theorem rdR_spec {E : List Ad} {V : List Vw} {R : List (Nat × Ce FM)} {w : World} (hV : vwf E V) (hR : rwf E.length R) (H : ROk E w R) : ∀ {f id : Nat} {c : Ce FM} {φs : List Prop}, rdR V R f id = some (c, φs) → All φs →
    (Rd w (bas E id 0) (cden E c) ∧ dRd w c) ∧ cwf c ∧ cok E.length c = true
  | 0, _, _, _, h, _ => by simp [rdR] at h
  | f + 1, id, c, φs, h, hφ => by
    simp only [rdR] at h
    split at h
    · rename_i c' hc'
      simp only [Option.some.injEq, Prod.mk.injEq] at h
      obtain ⟨rfl, rfl⟩ := h
      exact rAt_spec hc' H hR
    · split at h
      · rename_i v hv
        obtain ⟨⟨c', φ'⟩, hc, h⟩ := Option.bind_eq_some_iff.1 h
        obtain ⟨⟨r, k⟩, hr, h⟩ := Option.map_eq_some_iff.1 h
        simp only [Prod.mk.injEq] at h
        obtain ⟨rfl, rfl⟩ := h
        obtain ⟨h1, h2, h3⟩ := viewOf_spec hv hV
        obtain ⟨⟨q1, q4⟩, q2, q3⟩ := rdR_spec hV hR H hc hφ.2
        obtain ⟨g1, g2, g3⟩ := vcut_spec (E := E) (N := E.length) hr q2 hφ.1
        refine ⟨⟨?_, dRd_cut hr q4⟩, g2, g3⟩
        rw [h2]
        refine q1.slA (k := v.n * v.sz) (by omega) g1 fun e => ?_
        have : v.n = 0 := by omega
        rw [this] at g1
        rw [← g1]; simp
      · cases h
end
end Go.Px
