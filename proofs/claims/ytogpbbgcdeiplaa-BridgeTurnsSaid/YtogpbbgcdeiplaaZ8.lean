/-
  States that are told in two ways: what must be equal for both to say the same. No condition.
-/
import Derived.Test.YtogpbbgcdeiplaaZ7
set_option linter.all false
namespace Go.Px
open Go.RowKit

section
variable {FM : Nat → Fm}

/-- Values of two places of addresses that agree below B. -/
def same (B id id' : Nat) : Bool := Nat.beq id id' && Nat.blt id B
def uBas (B : Nat) (E F : List Ad) (id id' : Nat) : List Prop := bif same B id id' then [] else [bas E id 0 = bas F id' 0]
def u0 (B : Nat) (E F : List Ad) : S0 → S0 → List Prop
  | .xv (.int k a), .xv (.int k' b) => bif decide (k = k') then [a = b] else [False]
  | .xv (.bool a), .xv (.bool b) => [a = b]
  | .xv (.bool a), .kb b => [a = b]
  | .kb a, .xv (.bool b) => [a = b]
  | .kb a, .kb b => [a = b]
  | .st a, .st b => [a = b]
  | .xv a, .xv b => [a = b]
  | .pt id o, .pt id' o' => bif Nat.beq o o' then uBas B E F id id' else [False]
  | .qt id o i s q, .qt id' o' i' s' q' => bif Nat.beq o o' && Nat.beq s s' && Nat.beq q q' then (i = i') :: uBas B E F id id' else [False]
  | .sc id o n c _, .sc id' o' n' c' _ => bif Nat.beq o o' then (bif same B id id' then [n = n', c = c'] else [bas E id o = bas F id' o', n = n', c = c']) else [bas E id o = bas F id' o', n = n', c = c']
  | a, b => [a.den E = b.den F]

def Agree (B : Nat) (E F : List Ad) : Prop := ∀ i, i < B → E[i]? = F[i]?
theorem Agree.bas {B : Nat} {E F : List Ad} (h : Agree B E F) {id o : Nat} (hi : id < B) : bas E id o = bas F id o := by unfold Go.Px.bas; rw [h id hi]
theorem Agree.plc {B : Nat} {E F : List Ad} (h : Agree B E F) {id o : Nat} (hi : id < B) : plc E id o = plc F id o := by unfold Go.Px.plc; rw [h id hi]
theorem same_spec {B id id' : Nat} (h : same B id id' = true) : id = id' ∧ id < B := by
  simp only [same, Bool.and_eq_true] at h
  exact ⟨beq_n h.1, Nat.blt_eq.mp h.2⟩
theorem uBas_spec {B : Nat} {E F : List Ad} (h : Agree B E F) {id id' : Nat} (hu : All (uBas B E F id id')) : bas E id 0 = bas F id' 0 := by
  unfold uBas at hu
  simp only [cond_eq_ite] at hu
  split at hu
  · rename_i hs
    obtain ⟨rfl, hl⟩ := same_spec hs
    exact h.bas hl
  · exact hu.1
theorem u0_spec {B : Nat} {E F : List Ad} (h : Agree B E F) {x y : S0} (hu : All (u0 B E F x y)) : x.den E = y.den F := by
  unfold u0 at hu
  split at hu
  · simp only [cond_eq_ite] at hu
    split at hu
    · rename_i hk
      have := of_decide_eq_true hk; subst this
      have := hu.1; subst this; rfl
    · exact hu.1.elim
  · have := hu.1; subst this; rfl
  · have := hu.1; subst this; rfl
  · have := hu.1; subst this; rfl
  · have := hu.1; subst this; rfl
  · have := hu.1; subst this; rfl
  · exact hu.1
  · simp only [cond_eq_ite] at hu
    split at hu
    · rename_i ho
      have := beq_n ho; subst this
      simp only [S0.den, plc_adr, uBas_spec h hu]
    · exact hu.1.elim
  · simp only [cond_eq_ite] at hu
    split at hu
    · rename_i ho
      simp only [Bool.and_eq_true] at ho
      have h1 := beq_n ho.1.1; have h2 := beq_n ho.1.2; have h3 := beq_n ho.2
      subst h1 h2 h3
      have h4 := hu.1; subst h4
      simp only [S0.den, plc_adr, uBas_spec h hu.2]
    · exact hu.1.elim
  · simp only [cond_eq_ite] at hu
    split at hu
    · rename_i ho
      have := beq_n ho; subst this
      split at hu
      · rename_i hs
        obtain ⟨rfl, hl⟩ := same_spec hs
        obtain ⟨rfl, rfl, -⟩ := hu
        simp only [S0.den, h.bas hl]
      · obtain ⟨h1, rfl, rfl, -⟩ := hu
        simp only [S0.den, h1]
    · obtain ⟨h1, rfl, rfl, -⟩ := hu
      simp only [S0.den, h1]
  · exact hu.1

def uC (B : Nat) (E F : List Ad) : Ce FM → Ce FM → List Prop
  | [], [] => []
  | .b (.cl x) :: c, .b (.cl y) :: d => u0 B E F x y ++ uC B E F c d
  | .b (.iz k l n) :: c, .b (.iz k' l' n') :: d => bif decide (k = k') then (l = l') :: (n = n') :: uC B E F c d else [False]
  | .f j l n :: c, .f j' l' n' :: d => if h : j = j' then (h ▸ l = l') :: (n = n') :: uC B E F c d else [False]
  | _, _ => [False]
theorem uC_spec {B : Nat} {E F : List Ad} (h : Agree B E F) : ∀ {c d : Ce FM}, All (uC B E F c d) → cden E c = cden F d ∧ (cwf c → cwf d) ∧ cn c = cn d
  | [], [], _ => ⟨rfl, id, rfl⟩
  | .b (.cl x) :: c, .b (.cl y) :: d, hu => by
    obtain ⟨h1, h2⟩ := All_append.1 hu
    obtain ⟨g1, g2, g3⟩ := uC_spec h h2
    exact ⟨by simp only [cden, Sg.den, Sg0.den, u0_spec h h1, g1], fun w => ⟨trivial, g2 w.2⟩, by simp only [cn, Sg.n, Sg0.n, g3]⟩
  | .b (.iz k l n) :: c, .b (.iz k' l' n') :: d, hu => by
    simp only [uC, cond_eq_ite] at hu
    split at hu
    · rename_i hk
      have := of_decide_eq_true hk; subst this
      obtain ⟨rfl, rfl, h2⟩ := hu
      obtain ⟨g1, g2, g3⟩ := uC_spec h h2
      exact ⟨by simp only [cden, g1]; rfl, fun w => ⟨w.1, g2 w.2⟩, by simp only [cn, g3]⟩
    · exact hu.1.elim
  | .f j l n :: c, .f j' l' n' :: d, hu => by
    simp only [uC] at hu
    split at hu
    · rename_i hj
      subst hj
      obtain ⟨h1, rfl, h2⟩ := hu
      simp only at h1
      subst h1
      obtain ⟨g1, g2, g3⟩ := uC_spec h h2
      exact ⟨by simp only [cden, g1]; rfl, fun w => ⟨w.1, g2 w.2⟩, by simp only [cn, g3]⟩
    · exact hu.1.elim
  | [], .b _ :: _, hu => hu.1.elim
  | [], .f .. :: _, hu => hu.1.elim
  | .b (.cl _) :: _, [], hu => hu.1.elim
  | .b (.iz ..) :: _, [], hu => hu.1.elim
  | .f .. :: _, [], hu => hu.1.elim
  | .b (.cl _) :: _, .b (.iz ..) :: _, hu => hu.1.elim
  | .b (.cl _) :: _, .f .. :: _, hu => hu.1.elim
  | .b (.iz ..) :: _, .b (.cl _) :: _, hu => hu.1.elim
  | .b (.iz ..) :: _, .f .. :: _, hu => hu.1.elim
  | .f .. :: _, .b _ :: _, hu => hu.1.elim

def uS (B : Nat) (E F : List Ad) : SV FM → SV FM → List Prop
  | .one x, .one y => u0 B E F x y
  | .ag c, .ag d => uC B E F c d
  | _, _ => [False]
theorem uS_spec {B : Nat} {E F : List Ad} (h : Agree B E F) {x y : SV FM} (hu : All (uS B E F x y)) : x.den E = y.den F ∧ (x.wf → y.wf) := by
  cases x <;> cases y
  · exact ⟨u0_spec h hu, id⟩
  · exact hu.1.elim
  · exact hu.1.elim
  · obtain ⟨g1, g2, -⟩ := uC_spec h hu
    exact ⟨by simp only [SV.den, g1], g2⟩
def uL (B : Nat) (E F : List Ad) : List (SV FM) → List (SV FM) → List Prop
  | [], [] => []
  | x :: l, y :: r => uS B E F x y ++ uL B E F l r
  | _, _ => [False]
theorem uL_spec {B : Nat} {E F : List Ad} (h : Agree B E F) : ∀ {l r : List (SV FM)}, All (uL B E F l r) → l.map (SV.den E) = r.map (SV.den F) ∧ (svwf l → svwf r)
  | [], [], _ => ⟨rfl, id⟩
  | x :: l, y :: r, hu => by
    obtain ⟨h1, h2⟩ := All_append.1 hu
    obtain ⟨g1, g2⟩ := uS_spec h h1
    obtain ⟨g3, g4⟩ := uL_spec h h2
    exact ⟨by simp only [List.map_cons, g1, g3], fun w => ⟨g2 w.1, g4 w.2⟩⟩
  | [], _ :: _, hu => hu.1.elim
  | _ :: _, [], hu => hu.1.elim
def uV (B : Nat) (E F : List Ad) : TV FM → TV FM → List Prop
  | .v x, .v y => uS B E F x y
  | .tup l, .tup r => uL B E F l r
  | .fn f a b, .fn g c d => bif Nat.beq f g then uL B E F a c ++ uL B E F b d else [False]
  | _, _ => [False]
theorem uV_spec {B : Nat} {E F : List Ad} (h : Agree B E F) {x y : TV FM} (hu : All (uV B E F x y)) : x.den E = y.den F ∧ (x.wf → y.wf) := by
  cases x <;> cases y
  · exact uS_spec h hu
  · exact hu.1.elim
  · exact hu.1.elim
  · exact hu.1.elim
  · obtain ⟨g1, g2⟩ := uL_spec h hu
    exact ⟨by simp only [TV.den, g1], g2⟩
  · exact hu.1.elim
  · exact hu.1.elim
  · exact hu.1.elim
  · rename_i f a b g c d
    simp only [uV, cond_eq_ite] at hu
    split at hu
    · rename_i hf
      have := beq_n hf; subst this
      obtain ⟨h1, h2⟩ := All_append.1 hu
      obtain ⟨g1, g2⟩ := uL_spec h h1
      obtain ⟨g3, g4⟩ := uL_spec h h2
      exact ⟨by simp only [TV.den, g1, g3], fun w => ⟨g2 w.1, g4 w.2⟩⟩
    · exact hu.1.elim

def lsq : LoopState → LoopState → Bool
  | .ready, .ready => true
  | .busy, .busy => true
  | .done, .done => true
  | .exhausted, .exhausted => true
  | _, _ => false
theorem lsq_spec {a b : LoopState} (h : lsq a b = true) : a = b := by cases a <;> cases b <;> first | rfl | cases h
theorem Agree.bno {B : Nat} {E F : List Ad} (h : Agree B E F) {id : Nat} (hi : id < B) : bno E id = bno F id := by unfold Go.Px.bno; rw [h id hi]
/-- Of rows of records, those of a form. -/
def dsJ (j : Nat) : List (Ce FM) → List (List (FM j).α)
  | [] => []
  | [.f j' l _] :: r => if h : j' = j then (h ▸ l) :: dsJ j r else dsJ j r
  | [] :: r => dsJ j r
  | (.b _ :: _) :: r => dsJ j r
  | (.f _ _ _ :: _ :: _) :: r => dsJ j r
/-- To be in one of these lists. -/
def memL {α : Type} (a : α) : List (List α) → Prop
  | [] => False
  | [l] => a ∈ l
  | l :: m :: r => a ∈ l ∨ memL a (m :: r)
theorem memL_iff {α : Type} {a : α} : ∀ {ls : List (List α)}, memL a ls ↔ ∃ l ∈ ls, a ∈ l
  | [] => by simp [memL]
  | [l] => by simp [memL]
  | l :: m :: r => by
    have := memL_iff (a := a) (ls := m :: r)
    simp only [memL, this]
    simp
theorem dsJ_spec {w : World} {j : Nat} : ∀ {ds : List (Ce FM)} {l : List (FM j).α}, l ∈ dsJ j ds → dsOk w ds → ∀ a ∈ l, fmRd (FM j) w a
  | [], l, h, _ => by simp [dsJ] at h
  | [.f j' l' _] :: r, l, h, hd => by
    simp only [dsJ] at h
    split at h
    · rename_i e
      subst e
      rcases List.mem_cons.1 h with rfl | h
      · exact hd.1.1
      · exact dsJ_spec h hd.2
    · exact dsJ_spec h hd.2
  | [] :: r, l, h, hd => dsJ_spec (by simpa only [dsJ] using h) hd.2
  | (.b _ :: _) :: r, l, h, hd => dsJ_spec (by simpa only [dsJ] using h) hd.2
  | (.f _ _ _ :: _ :: _) :: r, l, h, hd => dsJ_spec (by simpa only [dsJ] using h) hd.2
theorem memL_spec {w : World} {j : Nat} {ds : List (Ce FM)} {a : (FM j).α} (h : memL a (dsJ j ds)) (hd : dsOk w ds) : fmRd (FM j) w a := by
  obtain ⟨l, hl, ha⟩ := memL_iff.1 h
  exact dsJ_spec hl hd a ha
/-- What must hold that lists whose slices stand are others. -/
def dsSub (ds : List (Ce FM)) : List (Ce FM) → List Prop
  | [] => []
  | [.f j l _] :: r => (∀ a ∈ l, memL a (dsJ j ds)) :: dsSub ds r
  | _ :: _ => [False]
theorem dsSub_spec {w : World} {a : List (Ce FM)} (ha : dsOk w a) : ∀ {b : List (Ce FM)}, All (dsSub a b) → dsOk w b
  | [], _ => trivial
  | [.f j l _] :: r, h => ⟨⟨fun x hx => memL_spec (h.1 x hx) ha, trivial⟩, dsSub_spec ha h.2⟩
  | [] :: _, h => h.1.elim
  | (.b _ :: _) :: _, h => h.1.elim
  | (.f _ _ _ :: _ :: _) :: _, h => h.1.elim
/-- Pieces: a slice of the call's own may be told as one that is only read. -/
def uP (B : Nat) (E F : List Ad) : Pc FM → Pc FM → List Prop
  | .bk id c ty, .bk id' c' ty' => bif Nat.beq ty ty' && isbk E id && isbk F id' then uBas B E F id id' ++ uC B E F c c' else [False]
  | .sl id n q c e s, .sl id' n' q' c' e' s' => bif Nat.beq e e' && Nat.beq s s' then uBas B E F id id' ++ ((n = n') :: (q = q') :: uC B E F c c') else [False]
  | .sl id _ _ c _ _, .rd id' c' => uBas B E F id id' ++ uC B E F c c'
  | .bk id c _, .rd id' c' => bif isbk E id then uBas B E F id id' ++ uC B E F c c' else [False]
  | .rd id c, .rd id' c' => uBas B E F id id' ++ uC B E F c c'
  | .lp id r st pd, .lp id' r' st' pd' => bif same B id id' && lsq st st' && (pd.isNone && pd'.isNone) then [r = r'] else [False]
  | .mk id b, .mk id' b' => bif same B id id' && (b == b') then [] else [False]
  | .mp id n l, .mp id' n' l' => bif Nat.beq n n' && isbk E id && isbk F id' then uBas B E F id id' ++ [l = l'] else [False]
  | .fz _ ds, .fz rs' ds' => match rs' with
    | [] => dsSub ds ds'
    | _ => [False]
  | _, _ => [False]
theorem bno_of {E F : List Ad} {id id' : Nat} (h1 : isbk E id = true) (h2 : isbk F id' = true) (h : bas E id 0 = bas F id' 0) : bno E id = bno F id' := by
  rw [bas_bk h1, bas_bk h2] at h
  simpa using h
theorem uP_spec {B : Nat} {E F : List Ad} (h : Agree B E F) {p q : Pc FM} (hu : All (uP B E F p q)) : (∀ w G, (p.den E).on w G → (q.den F).on w G) ∧ (p.wf → q.wf) := by
  cases p <;> cases q
  case lp.lp id r st pd id' r' st' pd' =>
    simp only [uP, cond_eq_ite] at hu
    split at hu
    · rename_i hc
      simp only [Bool.and_eq_true, Option.isNone_iff_eq_none] at hc
      obtain ⟨⟨hc1, hc2⟩, rfl, rfl⟩ := hc
      obtain ⟨rfl, hl⟩ := same_spec hc1
      have := lsq_spec hc2; subst this
      obtain ⟨rfl, -⟩ := hu
      exact ⟨fun w G hG => by simp only [Pc.den, ← h.bno hl]; exact hG, fun h => h⟩
    · exact hu.1.elim
  case mk.mk id b id' b' =>
    simp only [uP, cond_eq_ite] at hu
    split at hu
    · rename_i hc
      simp only [Bool.and_eq_true, beq_iff_eq] at hc
      obtain ⟨rfl, hl⟩ := same_spec hc.1
      obtain ⟨-, rfl⟩ := hc
      exact ⟨fun w G hG => by simp only [Pc.den, ← h.bno hl]; exact hG, fun h => h⟩
    · exact hu.1.elim
  case mp.mp id n l id' n' l' =>
    simp only [uP, cond_eq_ite] at hu
    split at hu
    · rename_i hc
      simp only [Bool.and_eq_true] at hc
      have := beq_n hc.1.1; subst this
      obtain ⟨h1, h2⟩ := All_append.1 hu
      have h3 := bno_of hc.1.2 hc.2 (uBas_spec h h1)
      obtain ⟨rfl, -⟩ := h2
      exact ⟨fun w G hG => by simp only [Pc.den, ← h3]; exact hG, fun h => h⟩
    · exact hu.1.elim
  case fz.fz rs ds rs' ds' =>
    simp only [uP] at hu
    split at hu
    · exact ⟨fun w G hG w' hw' => ⟨trivial, dsSub_spec (hG w' hw').2 hu⟩, fun _ => trivial⟩
    · exact hu.1.elim
  case bk.bk id c ty id' c' ty' =>
    simp only [uP, cond_eq_ite] at hu
    split at hu
    · rename_i hc
      simp only [Bool.and_eq_true] at hc
      have := beq_n hc.1.1; subst this
      obtain ⟨h1, h2⟩ := All_append.1 hu
      obtain ⟨g1, g2, g3⟩ := uC_spec h h2
      refine ⟨fun w G hG => ?_, g2⟩
      simp only [Pc.den, ← g1, ← bno_of hc.1.2 hc.2 (uBas_spec h h1)]
      exact hG
    · exact hu.1.elim
  case sl.sl id n cap c e s id' n' cap' c' e' s' =>
    simp only [uP, cond_eq_ite] at hu
    split at hu
    · rename_i hc
      simp only [Bool.and_eq_true] at hc
      have h1 := beq_n hc.1; have h2 := beq_n hc.2
      subst h1 h2
      obtain ⟨h1, rfl, rfl, h2⟩ := All_append.1 hu
      obtain ⟨g1, g2, g3⟩ := uC_spec h h2
      refine ⟨fun w G hG => ?_, g2⟩
      simp only [Pc.den, ← g1, ← uBas_spec h h1]
      exact hG
    · exact hu.1.elim
  case sl.rd id n cap c e s id' c' =>
    obtain ⟨h1, h2⟩ := All_append.1 hu
    obtain ⟨g1, g2, g3⟩ := uC_spec h h2
    refine ⟨fun w G hG => ?_, g2⟩
    simp only [Pc.den, ← g1, ← uBas_spec h h1]
    simp only [Pc.den] at hG
    intro w' hw
    exact (Rd.own hG.1).agree fun a ha => hw _ (hG.2 a ha)
  case bk.rd id c ty id' c' =>
    simp only [uP, cond_eq_ite] at hu
    split at hu
    · rename_i hc
      obtain ⟨h1, h2⟩ := All_append.1 hu
      obtain ⟨g1, g2, g3⟩ := uC_spec h h2
      refine ⟨fun w G hG => ?_, g2⟩
      simp only [Pc.den, ← g1, ← uBas_spec h h1]
      simp only [Pc.den] at hG
      intro w' hw
      rw [bas_bk hc]
      refine .inr ⟨bno E id, 0, (cden E c).toArray, ty, (0, 0), rfl, (hw _ hG.2).trans hG.1, fun j hj => ?_⟩
      simp
    · exact hu.1.elim
  case rd.rd id c id' c' =>
    obtain ⟨h1, h2⟩ := All_append.1 hu
    obtain ⟨g1, g2, g3⟩ := uC_spec h h2
    refine ⟨fun w G hG => ?_, g2⟩
    simp only [Pc.den, ← g1, ← uBas_spec h h1]
    exact hG
  all_goals exact hu.1.elim

/-- Each piece is told as the other tells it. -/
inductive EI : Mem → Mem → Prop where
  | nil : EI [] []
  | cons {e e' : Ent} {m m' : Mem} : (∀ w G, e.on w G → e'.on w G) → EI m m' → EI (e :: m) (e' :: m')
theorem Sep.imp {w : World} : ∀ {m m' : Mem} {F : Nat → Prop}, Sep w m F → EI m m' → Sep w m' F
  | [], _, _, _, h => by cases h; trivial
  | _ :: _, _, _, ⟨G, h1, h2, h3⟩, h => by
    cases h with
    | cons ha hb => exact ⟨G, ha w G h1, h2, Sep.imp h3 hb⟩
theorem Hp.imp {M : Nat → Prop} {w0 w : World} {m m' : Mem} (H : Hp M w0 w m) (h : EI m m') : Hp M w0 w m' :=
  ⟨H.os, H.tape, H.output, H.size, H.old, H.sep.imp h⟩
/-- A piece of which a part is told, to be read. -/
def viewOn : List Vw → Nat → Option Vw
  | [], _ => none
  | v :: r, id => bif Nat.beq v.base id then some v else viewOn r id
def rdy (E : List Ad) : Pc FM → Bool
  | .bk id _ _ => isbk E id
  | .sl _ _ _ _ _ _ => true
  | .rd _ _ => true
  | .pr _ => false
  | .lp _ _ _ _ => false
  | .mk _ _ => false
  | .mp _ _ _ => false
  | .fz _ _ => false
def uQ (B : Nat) (E : List Ad) (V : List Vw) (F : List Ad) (p q : Pc FM) : List Prop := match q with
  | .rd id' c' => match p.id?.bind (viewOn V) with
    | some v => match vcut p.ce v.lo v.n v.sz with
      | some (r, k) => bif rdy E p then (v.lo + v.n ≤ k) :: (uBas B E F v.id id' ++ uC B E F r c') else [False]
      | none => [False]
    | none => uP B E F p q
  | _ => uP B E F p q
theorem viewOn_spec {E : List Ad} : ∀ {V : List Vw} {id : Nat} {v : Vw}, viewOn V id = some v → vwf E V → v.base = id ∧ bas E v.id 0 = slA (bas E v.base 0) v.lo v.mx v.sz ∧ v.lo + v.n ≤ v.mx
  | [], _, _, h, _ => by simp [viewOn] at h
  | u :: l, id, v, h, hw => by
    simp only [viewOn, cond_eq_ite] at h
    split at h
    · rename_i hc
      have := beq_n hc; subst this
      simp only [Option.some.injEq] at h; subst h
      exact ⟨rfl, hw.1.1, hw.1.2.1⟩
    · exact viewOn_spec h hw.2
theorem rdy_on {E : List Ad} {p : Pc FM} {id : Nat} (h : rdy E p = true) (hi : p.id? = some id) {w : World} {G : Nat → Prop} (hG : (p.den E).on w G) : ∀ w', (∀ k, G k → w'.heap[k]? = w.heap[k]?) → Rd w' (bas E id 0) (cden E p.ce) := by
  intro w' hw
  cases p with
  | bk id' c ty =>
    simp only [Pc.id?, Option.some.injEq] at hi; subst hi
    simp only [Pc.den] at hG
    rw [bas_bk h]
    refine .inr ⟨bno E id', 0, (cden E c).toArray, ty, (0, 0), rfl, (hw _ hG.2).trans hG.1, fun j hj => ?_⟩
    simp [Pc.ce]
  | sl id' n cap c e s =>
    simp only [Pc.id?, Option.some.injEq] at hi; subst hi
    simp only [Pc.den] at hG
    exact (Rd.own hG.1).agree fun a ha => hw _ (hG.2 a ha)
  | rd id' c =>
    simp only [Pc.id?, Option.some.injEq] at hi; subst hi
    exact hG w' hw
  | pr φ => simp [Pc.id?] at hi
  | lp id' r st pd => cases h
  | mk id' b => cases h
  | mp id' n l => cases h
  | fz rs ds => simp [Pc.id?] at hi
theorem uQ_spec {B : Nat} {E F : List Ad} {V : List Vw} (h : Agree B E F) (hV : vwf E V) {p q : Pc FM} (hw : p.wf) (hu : All (uQ B E V F p q)) : (∀ w G, (p.den E).on w G → (q.den F).on w G) ∧ q.wf := by
  unfold uQ at hu
  split at hu
  · rename_i id' c'
    split at hu
    · rename_i v hv
      obtain ⟨id, hi, hv⟩ := Option.bind_eq_some_iff.1 hv
      split at hu
      · rename_i r k hr
        simp only [cond_eq_ite] at hu
        split at hu
        · rename_i hy
          obtain ⟨hk, hu⟩ := hu
          obtain ⟨h1, h2⟩ := All_append.1 hu
          obtain ⟨b1, b2, b3⟩ := viewOn_spec hv hV
          have hpw : cwf p.ce := by cases p <;> first | exact hw | trivial
          obtain ⟨g1, g2, -⟩ := vcut_spec (E := E) (N := E.length) hr hpw hk
          obtain ⟨e1, e2, -⟩ := uC_spec h h2
          refine ⟨fun w G hG w' hw' => ?_, e2 g2⟩
          have hR := rdy_on hy hi hG w' hw'
          rw [← e1, ← uBas_spec h h1, b2, b1]
          refine hR.slA (k := v.n * v.sz) (by omega) g1 fun e => ?_
          have : v.n = 0 := by omega
          rw [this] at g1
          rw [← g1]; simp
        · exact hu.1.elim
      · exact hu.1.elim
    · obtain ⟨g1, g2⟩ := uP_spec h hu
      exact ⟨g1, g2 hw⟩
  · obtain ⟨g1, g2⟩ := uP_spec h hu
    exact ⟨g1, g2 hw⟩
def uN (B : Nat) (E : List Ad) (V : List Vw) (F : List Ad) : List (Pc FM) → List (Pc FM) → List Prop
  | [], [] => []
  | p :: m, q :: k => uQ B E V F p q ++ uN B E V F m k
  | _, _ => [False]
theorem uN_spec {B : Nat} {E F : List Ad} {V : List Vw} (h : Agree B E F) (hV : vwf E V) : ∀ {m k : List (Pc FM)}, mwf m → All (uN B E V F m k) → EI (mden E m) (mden F k) ∧ mwf k
  | [], [], _, _ => ⟨.nil, trivial⟩
  | p :: m, q :: k, hw, hu => by
    obtain ⟨h1, h2⟩ := All_append.1 hu
    obtain ⟨g1, g2⟩ := uQ_spec h hV hw.1 h1
    obtain ⟨g3, g4⟩ := uN_spec h hV hw.2 h2
    exact ⟨.cons g1 g3, g2, g4⟩
  | [], _ :: _, _, hu => hu.1.elim
  | _ :: _, [], _, hu => hu.1.elim

def nilC : Ce FM → List Prop
  | [.b (.iz _ l n)] => [l = [], n = 0]
  | [.f _ l n] => [l = [], n = 0]
  | [] => []
  | _ => [False]
theorem nilC_spec {E : List Ad} {c : Ce FM} (h : All (nilC c)) : cden E c = [] ∧ cwf c := by
  unfold nilC at h
  split at h
  · obtain ⟨rfl, rfl, -⟩ := h; exact ⟨rfl, rfl, trivial⟩
  · obtain ⟨rfl, rfl, -⟩ := h; exact ⟨rfl, ⟨rfl, by simp⟩, trivial⟩
  · exact ⟨rfl, trivial⟩
  · exact h.1.elim
def dsNil : List (Ce FM) → List Prop
  | [] => []
  | [.f _ l _] :: r => (l = []) :: dsNil r
  | _ => [False]
theorem dsNil_spec {w : World} : ∀ {d : List (Ce FM)}, All (dsNil d) → dsOk w d
  | [], _ => trivial
  | [.f _ l _] :: r, h => by
    obtain ⟨h1, h2⟩ := h
    subst h1
    exact ⟨⟨fun a ha => (by cases ha), trivial⟩, dsNil_spec h2⟩
  | [] :: _, h => h.1.elim
  | (.b _ :: _) :: _, h => h.1.elim
  | (.f _ _ _ :: _ :: _) :: _, h => h.1.elim
/-- Pieces that are not there yet: slices of nothing. -/
def uX (F : List Ad) : List (Pc FM) → List Prop
  | [] => []
  | .sl id n q c _ _ :: r => (bas F id 0 = none) :: (n = 0) :: (q = 0) :: (nilC c ++ uX F r)
  | .fz [] ds :: r => dsNil ds ++ uX F r
  | _ :: _ => [False]
theorem uX_spec {M : Nat → Prop} {w0 w : World} {F : List Ad} {m' : Mem} : ∀ {k : List (Pc FM)}, All (uX F k) → Hp M w0 w m' → Hp M w0 w (mden F k ++ m') ∧ mwf k
  | [], _, H => ⟨H, trivial⟩
  | .sl id n q c e s :: r, h, H => by
    obtain ⟨h1, h2, h3, h4⟩ := h
    obtain ⟨h4, h5⟩ := All_append.1 h4
    obtain ⟨g1, g2⟩ := uX_spec (k := r) h5 H
    obtain ⟨q1, q2⟩ := nilC_spec (E := F) h4
    refine ⟨?_, q2, g2⟩
    subst h2 h3
    refine g1.add0 (e := (Pc.sl id 0 0 c e s).den F) ?_
    simp only [Pc.den, h1, q1]
    exact ⟨World.ownsRow_nil w 0 e s, fun a ha => by cases ha⟩
  | .bk .. :: _, h, _ => h.1.elim
  | .rd .. :: _, h, _ => h.1.elim
  | .lp .. :: _, h, _ => h.1.elim
  | .mk .. :: _, h, _ => h.1.elim
  | .mp .. :: _, h, _ => h.1.elim
  | .fz [] ds :: r, h, H => by
    obtain ⟨h1, h2⟩ := All_append.1 h
    obtain ⟨g1, g2⟩ := uX_spec (k := r) h2 H
    exact ⟨g1.add0 (e := (Pc.fz [] ds).den F) (fun w' _ => ⟨trivial, dsNil_spec h1⟩), trivial, g2⟩
  | .fz (_ :: _) _ :: _, h, _ => h.1.elim

/-- What must hold that the entries of a table stand in another. -/
def uT (B : Nat) (E F : List Ad) (T : ST FM) : ST FM → List Prop
  | [] => []
  | (t, some v) :: r => (match lookS T t with
    | some u => uV B E F u v
    | none => [False]) ++ uT B E F T r
  | (_, none) :: r => uT B E F T r

def keyIn (t : Nat) : ST FM → Bool
  | [] => false
  | (s, _) :: r => Nat.beq s t || keyIn t r
def memN (t : Nat) : List Nat → Bool
  | [] => false
  | s :: r => Nat.beq s t || memN t r
def unk (ws : List Nat) : ST FM := ws.map fun t => (t, none)
/-- The entries of the first n are all of these. -/
def coverd (L : ST FM) (ws : List Nat) : Nat → ST FM → Bool
  | 0, _ => true
  | _, [] => true
  | n + 1, (t, _) :: r => (keyIn t L || memN t ws) && coverd L ws n r

theorem uT_spec {B : Nat} {E F : List Ad} (h : Agree B E F) {T : ST FM} (hw : stwf T) : ∀ {L : ST FM}, All (uT B E F T L) → stwf L ∧ ∀ t v, lookS L t = some v → ∃ u, lookS T t = some u ∧ u.den E = v.den F
  | [], _ => ⟨trivial, fun t v h => by simp [lookS] at h⟩
  | (t, some v) :: r, hu => by
    obtain ⟨h1, h2⟩ := All_append.1 hu
    obtain ⟨g1, g2⟩ := uT_spec h hw h2
    split at h1
    · rename_i u hl
      obtain ⟨q1, q2⟩ := uV_spec h h1
      refine ⟨⟨q2 (stwf_look hw hl), g1⟩, fun s v' hs => ?_⟩
      simp only [lookS, cond_eq_ite] at hs
      split at hs
      · rename_i e
        have := beq_n e; subst this
        simp only [Option.some.injEq] at hs; subst hs
        exact ⟨u, hl, q1⟩
      · exact g2 s v' hs
    · exact h1.1.elim
  | (t, none) :: r, hu => by
    obtain ⟨g1, g2⟩ := uT_spec (L := r) h hw hu
    refine ⟨⟨trivial, g1⟩, fun s v' hs => ?_⟩
    simp only [lookS, cond_eq_ite] at hs
    split at hs
    · cases hs
    · exact g2 s v' hs

theorem lookS_append_out : ∀ {A R : ST FM} {t : Nat}, keyIn t A = false → lookS (A ++ R) t = lookS R t
  | [], _, _, _ => rfl
  | (s, v) :: A, R, t, h => by
    simp only [keyIn, Bool.or_eq_false_iff] at h
    simp only [List.cons_append, lookS, h.1, cond_false]
    exact lookS_append_out h.2
theorem lookS_append_in : ∀ {A R : ST FM} {t : Nat}, keyIn t A = true → lookS (A ++ R) t = lookS A t
  | [], _, _, h => by simp [keyIn] at h
  | (s, v) :: A, R, t, h => by
    simp only [keyIn, Bool.or_eq_true] at h
    simp only [List.cons_append, lookS]
    cases e : Nat.beq s t
    · simp only [cond_false]
      exact lookS_append_in (by rcases h with h | h; · rw [e] at h; cases h
                                · exact h)
    · rfl
theorem lookS_unk : ∀ {ws : List Nat} {t : Nat}, lookS (unk (FM := FM) ws) t = none
  | [], _ => rfl
  | s :: ws, t => by
    simp only [unk, List.map_cons, lookS]
    cases Nat.beq s t
    · exact lookS_unk (ws := ws)
    · rfl
theorem keyIn_unk : ∀ {ws : List Nat} {t : Nat}, keyIn t (unk (FM := FM) ws) = memN t ws
  | [], _ => rfl
  | s :: ws, t => by
    have := keyIn_unk (ws := ws) (t := t)
    simp only [unk, List.map_cons, keyIn, memN] at this ⊢
    rw [this]
theorem coverd_spec {L : ST FM} {ws : List Nat} : ∀ {n : Nat} {A : ST FM}, coverd L ws n A = true → n = A.length → ∀ t, keyIn t L = false → memN t ws = false → keyIn t A = false
  | 0, A, _, hn, t, _, _ => by
    have : A = [] := List.length_eq_zero_iff.1 hn.symm
    subst this; rfl
  | n + 1, [], _, hn, _, _, _ => by simp at hn
  | n + 1, (s, v) :: r, h, hn, t, h1, h2 => by
    simp only [coverd, Bool.and_eq_true, Bool.or_eq_true] at h
    simp only [keyIn, Bool.or_eq_false_iff]
    refine ⟨?_, coverd_spec h.2 (by simpa using hn) t h1 h2⟩
    cases e : Nat.beq s t
    · rfl
    · have := beq_n e; subst this
      rcases h.1 with h | h
      · rw [h] at h1; cases h1
      · rw [h] at h2; cases h2
theorem coverd_take {L : ST FM} {ws : List Nat} : ∀ {n : Nat} {A R : ST FM}, n = A.length → coverd L ws n (A ++ R) = true → coverd L ws n A = true
  | 0, A, _, hn, _ => by
    have : A = [] := List.length_eq_zero_iff.1 hn.symm
    subst this; rfl
  | n + 1, [], _, hn, _ => by simp at hn
  | n + 1, (s, v) :: r, R, hn, h => by
    simp only [List.cons_append, coverd, Bool.and_eq_true] at h ⊢
    exact ⟨h.1, coverd_take (by simpa using hn) h.2⟩

/-- A frame that a state tells is told by the other, too. -/
theorem tm_head {N : FN} {B : Nat} {E F : List Ad} (h : Agree B E F) {T L T0 A : ST FM} {ws : List Nat} (hT : T = A ++ T0) (hw : stwf T) (hu : All (uT B E F T L)) (hc : coverd L ws A.length T = true)
    (h0 : tden E T0 = tden F T0) {a : Act} (ha : Tm N (tden E T) a) : Tm N (tden F (L ++ (unk ws ++ T0))) a := by
  refine ⟨ha.1, ha.2.1, fun t v ht => ha.2.2 t v ?_⟩
  obtain ⟨g1, g2⟩ := uT_spec h hw hu
  rw [lookS_den] at ht ⊢
  cases hk : keyIn t L with
  | true =>
    rw [lookS_append_in hk] at ht
    obtain ⟨u, hu', rfl⟩ := Option.map_eq_some_iff.1 ht
    obtain ⟨u', h1, h2⟩ := g2 t u hu'
    rw [h1, Option.map_some, h2]
  | false =>
    rw [lookS_append_out hk] at ht
    cases hk2 : memN t ws with
    | true =>
      rw [lookS_append_in (by rw [keyIn_unk]; exact hk2), lookS_unk] at ht
      cases ht
    | false =>
      rw [lookS_append_out (by rw [keyIn_unk]; exact hk2)] at ht
      subst hT
      have := coverd_spec (coverd_take rfl hc) rfl t hk hk2
      rw [lookS_append_out this, ← lookS_den, h0, lookS_den]
      exact ht
theorem stwf_append : ∀ {A R : ST FM}, stwf (A ++ R) ↔ stwf A ∧ stwf R
  | [], R => by simp [stwf]
  | (s, v) :: A, R => by simp [stwf, stwf_append (A := A), and_assoc]
theorem stlt_append {N : Nat} : ∀ {A R : ST FM}, stlt N (A ++ R) = true ↔ stlt N A = true ∧ stlt N R = true
  | [], R => by simp [stlt]
  | (s, v) :: A, R => by simp [stlt, stlt_append (A := A), and_assoc]
theorem stwf_unk : ∀ {ws : List Nat}, stwf (unk (FM := FM) ws)
  | [] => trivial
  | _ :: ws => ⟨trivial, stwf_unk (ws := ws)⟩
theorem stlt_unk {N : Nat} : ∀ {ws : List Nat}, stlt N (unk (FM := FM) ws) = true
  | [] => rfl
  | _ :: ws => by
    have := stlt_unk (N := N) (ws := ws)
    simp only [unk, List.map_cons, stlt, otlt, Bool.true_and] at this ⊢; exact this

section
variable {M : Nat → Prop} {w0 w : World}
/-- Pieces on blocks that stand apart. -/
theorem Sep.all {w : World} : ∀ {m : Mem} {Gs : Nat → Nat → Prop} {F : Nat → Prop}, (∀ (i : Nat) (e : Ent), m[i]? = some e → e.on w (Gs i)) → (∀ i k, Gs i k → F k) → (∀ i j k, Gs i k → Gs j k → i = j) → Sep w m F
  | [], _, _, _, _, _ => trivial
  | e :: m, Gs, F, h1, h2, h3 => ⟨Gs 0, h1 0 e rfl, h2 0, Sep.all (Gs := fun i => Gs (i + 1)) (fun i e he => h1 (i + 1) e (by simpa using he)) (fun i k hk => ⟨h2 (i + 1) k hk, fun h0 => by have := h3 _ _ k hk h0; omega⟩) (fun i j k hi hj => by have := h3 _ _ k hi hj; omega)⟩
/-- Two pieces that are only read are one. -/
theorem Hp.merge {m : Mem} (H : Hp M w0 w m) {i j : Nat} {φ ψ : World → Prop} (hi : m[i]? = some (.pr φ)) (hj : m[j]? = some (.pr ψ)) (hij : i ≠ j) : Hp M w0 w ((m.set i (.pr fun w => φ w ∧ ψ w)).set j (.pr fun _ => True)) := by
  obtain ⟨Gs, g1, g2, g3⟩ := H.sep.fam
  have li : i < m.length := (List.getElem?_eq_some_iff.1 hi).1
  have lj : j < m.length := (List.getElem?_eq_some_iff.1 hj).1
  refine ⟨H.os, H.tape, H.output, H.size, H.old, Sep.all (Gs := fun x k => if x = i then Gs i k ∨ Gs j k else if x = j then False else Gs x k) (fun x e he => ?_) (fun x k hk => ?_) (fun x y k hx hy => ?_)⟩
  · by_cases hxj : x = j
    · subst hxj
      rw [List.getElem?_set_self (by rw [List.length_set]; exact lj)] at he
      simp only [Option.some.injEq] at he; subst he
      exact fun _ _ => trivial
    · rw [List.getElem?_set_ne (Ne.symm hxj)] at he
      by_cases hxi : x = i
      · subst hxi
        rw [List.getElem?_set_self li] at he
        simp only [Option.some.injEq] at he; subst he
        intro w' hw'
        simp only [if_true] at hw'
        exact ⟨g1 x _ hi w' fun k hk => hw' k (.inl hk), g1 j _ hj w' fun k hk => hw' k (.inr hk)⟩
      · rw [List.getElem?_set_ne (Ne.symm hxi)] at he
        simp only [hxi, hxj, if_false]
        exact g1 x e he
  · split at hk
    · rcases hk with hk | hk <;> exact g2 _ k hk
    · split at hk
      · exact hk.elim
      · exact g2 x k hk
  · split at hx
    · split at hy
      · omega
      · split at hy
        · exact hy.elim
        · rcases hx with hx | hx
          · have := g3 _ _ k hx hy; omega
          · have := g3 _ _ k hx hy; omega
    · split at hx
      · exact hx.elim
      · split at hy
        · rcases hy with hy | hy
          · have := g3 _ _ k hx hy; omega
          · have := g3 _ _ k hx hy; omega
        · split at hy
          · exact hy.elim
          · exact g3 _ _ k hx hy
theorem dsOk_append {w : World} : ∀ {a b : List (Ce FM)}, dsOk w (a ++ b) ↔ dsOk w a ∧ dsOk w b
  | [], b => by simp [dsOk]
  | c :: a, b => by simp [dsOk, dsOk_append (a := a), and_assoc]
theorem ROk_app {E : List Ad} {w : World} : ∀ {a b : List (Nat × Ce FM)}, ROk E w (a ++ b) ↔ ROk E w a ∧ ROk E w b
  | [], b => by simp [ROk]
  | (i, c) :: a, b => by simp [ROk, ROk_app (a := a), and_assoc]
theorem mden_at {E : List Ad} : ∀ {m : List (Pc FM)} {k : Nat} {p : Pc FM}, m[k]? = some p → (mden E m)[k]? = some (p.den E)
  | [], _, _, h => by simp at h
  | q :: m, 0, p, h => by simp only [List.getElem?_cons_zero, Option.some.injEq] at h; subst h; rfl
  | q :: m, k + 1, p, h => by simpa [mden] using mden_at (m := m) (k := k) (by simpa using h)
/-- Cells without records. -/
def noF : Ce FM → Bool
  | [] => true
  | .b _ :: c => noF c
  | .f j _ _ :: c => bif (FM j).deep then false else noF c
theorem noF_spec {w : World} : ∀ {c : Ce FM}, noF c = true → dRd w c
  | [], _ => trivial
  | .b _ :: c, h => noF_spec (c := c) h
  | .f j l _ :: c, h => by
    simp only [noF, cond_eq_ite] at h
    split at h
    · cases h
    · rename_i hd
      exact ⟨fun a _ => fmRd.flat (by simpa using hd) w a, noF_spec h⟩
/-- A slice of the call's own that is no longer written. -/
def frzK (m : List (Pc FM)) (k : Nat) : Option (List (Pc FM)) := match m[k]? with
  | some (.sl id _ _ c _ _) => bif noF c then some (m.set k (.fz [(id, c)] [])) else none
  | _ => none
theorem frzK_spec {E : List Ad} {m m' : List (Pc FM)} {k : Nat} (h : frzK m k = some m') (H : Hp M w0 w (mden E m)) : Hp M w0 w (mden E m') := by
  unfold frzK at h
  split at h
  · rename_i id n q c e s hk
    simp only [cond_eq_ite] at h
    split at h
    · rename_i hc
      simp only [Option.some.injEq] at h; subst h
      have hk' := mden_at (E := E) hk
      rw [mden_set]
      exact H.conv hk' _ fun G hG w' hw => ⟨⟨⟨(Rd.own hG.1).agree fun a ha => hw _ (hG.2 a ha), noF_spec hc⟩, trivial⟩, trivial⟩
    · cases h
  · cases h
/-- Two pieces that are no longer written are one. -/
def mrgK (m : List (Pc FM)) (i j : Nat) : Option (List (Pc FM)) := match m[i]?, m[j]? with
  | some (.fz rs ds), some (.fz rs' ds') => bif Nat.beq i j then none else some ((m.set i (.fz (rs ++ rs') (ds ++ ds'))).set j (.fz [] []))
  | _, _ => none
theorem mrgK_spec {E : List Ad} {m m' : List (Pc FM)} {i j : Nat} (h : mrgK m i j = some m') (H : Hp M w0 w (mden E m)) : Hp M w0 w (mden E m') := by
  unfold mrgK at h
  split at h
  · rename_i rs ds rs' ds' hi hj
    simp only [cond_eq_ite] at h
    split at h
    · cases h
    · rename_i hij
      simp only [Option.some.injEq] at h; subst h
      have hij : i ≠ j := fun e => hij (by rw [e]; exact Nat.beq_refl j)
      have H1 := H.merge (mden_at (E := E) hi) (mden_at (E := E) hj) hij
      have li : i < (mden E m).length := (List.getElem?_eq_some_iff.1 (mden_at (E := E) hi)).1
      have lj : j < (mden E m).length := (List.getElem?_eq_some_iff.1 (mden_at (E := E) hj)).1
      rw [mden_set, mden_set]
      have H2 := H1.prTo i (φ := fun w => (ROk E w rs ∧ dsOk w ds) ∧ ROk E w rs' ∧ dsOk w ds') (ψ := fun w => ROk E w (rs ++ rs') ∧ dsOk w (ds ++ ds')) (by rw [List.getElem?_set_ne (Ne.symm hij), List.getElem?_set_self li]) (fun w hw => ⟨ROk_app.2 ⟨hw.1.1, hw.2.1⟩, dsOk_append.2 ⟨hw.1.2, hw.2.2⟩⟩)
      have H3 := H2.prTo j (φ := fun _ => True) (ψ := fun w => ROk E w ([] : List (Nat × Ce FM)) ∧ dsOk w ([] : List (Ce FM))) (by rw [List.getElem?_set_ne hij, List.getElem?_set_self (by rw [List.length_set]; exact lj)]) (fun w _ => ⟨trivial, trivial⟩)
      rw [List.set_comm _ _ hij, List.set_set, List.set_comm _ _ (Ne.symm hij), List.set_set] at H3
      exact H3
  · cases h
end
end
end Go.Px
