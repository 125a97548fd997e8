/-
  The forms of this program's records. No condition.
-/
import Derived.Test.YtogpbbgcdeiplaaZH
set_option linter.all false
namespace Go.Px
open Go.RowKit

def fmHash : Fm where
  α := List Int
  sg := fun a => [.iz .u8 (a) 32]
  sz := 32
  d := (List.replicate 32 0)
  of := fun
    | [.iz k0 v0 n0] => bif decide (k0 = .u8) && Nat.beq n0 32 then some (v0) else none
    | _ => none
  wf := fun a => (a).length = 32
  hd := by simp
  hsz := fun _ => rfl
  hok := fun _ => rfl
  hwf := fun a => by simp [c0wf, Sg0.wf]
  hmk := fun l a h => by
    split at h
    · simp only [cond_eq_ite] at h
      split at h
      · rename_i hc
        simp only [Bool.and_eq_true, decide_eq_true_eq, Nat.beq_eq] at hc
        simp only [Option.some.injEq] at h
        subst h
        simp_all
      · cases h
    · cases h
  pos := by decide
def fmAccount : Fm where
  α := Int × Int × List Int
  sg := fun a => [.cl (.xv (.int .u64 (a.1))), .cl (.xv (.int .u64 (a.2.1))), .iz .u8 (a.2.2) 32]
  sz := 34
  d := (0, 0, List.replicate 32 0)
  of := fun
    | [.cl (.xv (.int k0 v0)), .cl (.xv (.int k1 v1)), .iz k2 v2 n2] => bif decide (k0 = .u64) && decide (k1 = .u64) && decide (k2 = .u8) && Nat.beq n2 32 then some (v0, v1, v2) else none
    | _ => none
  wf := fun a => (a.2.2).length = 32
  hd := by simp
  hsz := fun _ => rfl
  hok := fun _ => rfl
  hwf := fun a => by simp [c0wf, Sg0.wf]
  hmk := fun l a h => by
    split at h
    · simp only [cond_eq_ite] at h
      split at h
      · rename_i hc
        simp only [Bool.and_eq_true, decide_eq_true_eq, Nat.beq_eq] at hc
        simp only [Option.some.injEq] at h
        subst h
        simp_all
      · cases h
    · cases h
  pos := by decide
def fmOut : Fm where
  α := Int × Int
  sg := fun a => [.cl (.xv (.int .u64 (a.1))), .cl (.xv (.int .u64 (a.2)))]
  sz := 2
  d := (0, 0)
  of := fun
    | [.cl (.xv (.int k0 v0)), .cl (.xv (.int k1 v1))] => bif decide (k0 = .u64) && decide (k1 = .u64) then some (v0, v1) else none
    | _ => none
  wf := fun a => True
  hd := by simp
  hsz := fun _ => rfl
  hok := fun _ => rfl
  hwf := fun a => by simp [c0wf, Sg0.wf]
  hmk := fun l a h => by
    split at h
    · simp only [cond_eq_ite] at h
      split at h
      · rename_i hc
        simp only [Bool.and_eq_true, decide_eq_true_eq, Nat.beq_eq] at hc
        simp only [Option.some.injEq] at h
        subst h
        simp_all
      · cases h
    · cases h
  pos := by decide
  kds := some [.int .u64, .int .u64]
  hkd := fun ks h a _ => by cases h; rfl
  dec := some inferInstance
  hdec := fun _ a b _ _ h => by
    simp only [c0den, Sg0.den, S0.den, List.cons_append, List.nil_append, List.cons.injEq, Value.int.injEq, Value.bool.injEq, true_and, and_true] at h
    simp only [Prod.ext_iff]
    simp_all
def fmCode : Fm where
  α := Int × Int × Int × Int × Int
  sg := fun a => [.cl (.xv (.int .u8 (a.1))), .cl (.xv (.int .u8 (a.2.1))), .cl (.xv (.int .u8 (a.2.2.1))), .cl (.xv (.int .u8 (a.2.2.2.1))), .cl (.xv (.int .u32 (a.2.2.2.2)))]
  sz := 5
  d := (0, 0, 0, 0, 0)
  of := fun
    | [.cl (.xv (.int k0 v0)), .cl (.xv (.int k1 v1)), .cl (.xv (.int k2 v2)), .cl (.xv (.int k3 v3)), .cl (.xv (.int k4 v4))] => bif decide (k0 = .u8) && decide (k1 = .u8) && decide (k2 = .u8) && decide (k3 = .u8) && decide (k4 = .u32) then some (v0, v1, v2, v3, v4) else none
    | _ => none
  wf := fun a => True
  hd := by simp
  hsz := fun _ => rfl
  hok := fun _ => rfl
  hwf := fun a => by simp [c0wf, Sg0.wf]
  hmk := fun l a h => by
    split at h
    · simp only [cond_eq_ite] at h
      split at h
      · rename_i hc
        simp only [Bool.and_eq_true, decide_eq_true_eq, Nat.beq_eq] at hc
        simp only [Option.some.injEq] at h
        subst h
        simp_all
      · cases h
    · cases h
  pos := by decide
  kds := some [.int .u8, .int .u8, .int .u8, .int .u8, .int .u32]
  hkd := fun ks h a _ => by cases h; rfl
  dec := some inferInstance
  hdec := fun _ a b _ _ h => by
    simp only [c0den, Sg0.den, S0.den, List.cons_append, List.nil_append, List.cons.injEq, Value.int.injEq, Value.bool.injEq, true_and, and_true] at h
    simp only [Prod.ext_iff]
    simp_all
def fmBytes : Fm where
  α := (Option Addr × List Int × Nat)
  sg := fun a => [.cl (.xv (.slice a.1 a.2.1.length a.2.2))]
  sz := 1
  d := ((none, [], 0))
  of := fun _ => none
  wf := fun a => True
  hd := by simp
  hsz := fun _ => rfl
  hok := fun _ => rfl
  hwf := fun a => by simp [c0wf, Sg0.wf]
  hmk := fun l a h => by cases h
  pos := by decide
  deep := true
  inn := fun a o => bif Nat.beq o 0 then some (a.1, .u8, a.2.1) else none
  hdp := by intro h; cases h
  hin := by
    intro a o A k l h
    simp only [cond_eq_ite] at h
    split at h
    · rename_i ho
      have ho := Nat.eq_of_beq_eq_true ho
      subst ho
      simp only [Option.some.injEq, Prod.mk.injEq] at h
      obtain ⟨rfl, rfl, rfl⟩ := h
      exact ⟨_, rfl⟩
    · cases h
  ofD := fun
    | [.d A0 k0 v0 n0] => bif decide (k0 = .u8) then some ((A0, v0, n0)) else none
    | _ => none
  hofD := fun ds a h => by
    split at h
    · simp only [cond_eq_ite] at h
      split at h
      · rename_i hc
        simp only [Bool.and_eq_true, decide_eq_true_eq, Nat.beq_eq] at hc
        simp only [Option.some.injEq] at h
        subst h
        refine ⟨?_, ?_, ?_⟩
        · simp_all [dcden, DC.den, c0den, Sg0.den, S0.den]
        · simp_all [dcwf, Sg0.wf]
        · intro o A k l hi
          simp only [cond_eq_ite] at hi
          split at hi
          · simp only [Option.some.injEq, Prod.mk.injEq] at hi
            obtain ⟨rfl, rfl, rfl⟩ := hi
            simp_all
          · cases hi
      · cases h
    · cases h
def fmHashed : Fm where
  α := (Option Addr × List Int × Nat) × List Int
  sg := fun a => [.cl (.xv (.slice a.1.1 a.1.2.1.length a.1.2.2)), .iz .u8 (a.2) 32]
  sz := 33
  d := ((none, [], 0), List.replicate 32 0)
  of := fun _ => none
  wf := fun a => (a.2).length = 32
  hd := by simp
  hsz := fun _ => rfl
  hok := fun _ => rfl
  hwf := fun a => by simp [c0wf, Sg0.wf]
  hmk := fun l a h => by cases h
  pos := by decide
  deep := true
  inn := fun a o => bif Nat.beq o 0 then some (a.1.1, .u8, a.1.2.1) else none
  hdp := by intro h; cases h
  hin := by
    intro a o A k l h
    simp only [cond_eq_ite] at h
    split at h
    · rename_i ho
      have ho := Nat.eq_of_beq_eq_true ho
      subst ho
      simp only [Option.some.injEq, Prod.mk.injEq] at h
      obtain ⟨rfl, rfl, rfl⟩ := h
      exact ⟨_, rfl⟩
    · cases h
  ofD := fun
    | [.d A0 k0 v0 n0, .c (.iz k1 v1 n1)] => bif decide (k0 = .u8) && decide (k1 = .u8) && Nat.beq n1 32 then some ((A0, v0, n0), v1) else none
    | _ => none
  hofD := fun ds a h => by
    split at h
    · simp only [cond_eq_ite] at h
      split at h
      · rename_i hc
        simp only [Bool.and_eq_true, decide_eq_true_eq, Nat.beq_eq] at hc
        simp only [Option.some.injEq] at h
        subst h
        refine ⟨?_, ?_, ?_⟩
        · simp_all [dcden, DC.den, c0den, Sg0.den, S0.den]
        · simp_all [dcwf, Sg0.wf]
        · intro o A k l hi
          simp only [cond_eq_ite] at hi
          split at hi
          · simp only [Option.some.injEq, Prod.mk.injEq] at hi
            obtain ⟨rfl, rfl, rfl⟩ := hi
            simp_all
          · cases hi
      · cases h
    · cases h
def fmDelayed : Fm where
  α := Int × (Option Addr × List Int × Nat)
  sg := fun a => [.cl (.xv (.int .i64 (a.1))), .cl (.xv (.slice a.2.1 a.2.2.1.length a.2.2.2))]
  sz := 2
  d := (0, (none, [], 0))
  of := fun _ => none
  wf := fun a => True
  hd := by simp
  hsz := fun _ => rfl
  hok := fun _ => rfl
  hwf := fun a => by simp [c0wf, Sg0.wf]
  hmk := fun l a h => by cases h
  pos := by decide
  deep := true
  inn := fun a o => bif Nat.beq o 1 then some (a.2.1, .u8, a.2.2.1) else none
  hdp := by intro h; cases h
  hin := by
    intro a o A k l h
    simp only [cond_eq_ite] at h
    split at h
    · rename_i ho
      have ho := Nat.eq_of_beq_eq_true ho
      subst ho
      simp only [Option.some.injEq, Prod.mk.injEq] at h
      obtain ⟨rfl, rfl, rfl⟩ := h
      exact ⟨_, rfl⟩
    · cases h
  ofD := fun
    | [.c (.cl (.xv (.int k0 v0))), .d A1 k1 v1 n1] => bif decide (k0 = .i64) && decide (k1 = .u8) then some (v0, (A1, v1, n1)) else none
    | _ => none
  hofD := fun ds a h => by
    split at h
    · simp only [cond_eq_ite] at h
      split at h
      · rename_i hc
        simp only [Bool.and_eq_true, decide_eq_true_eq, Nat.beq_eq] at hc
        simp only [Option.some.injEq] at h
        subst h
        refine ⟨?_, ?_, ?_⟩
        · simp_all [dcden, DC.den, c0den, Sg0.den, S0.den]
        · simp_all [dcwf, Sg0.wf]
        · intro o A k l hi
          simp only [cond_eq_ite] at hi
          split at hi
          · simp only [Option.some.injEq, Prod.mk.injEq] at hi
            obtain ⟨rfl, rfl, rfl⟩ := hi
            simp_all
          · cases hi
      · cases h
    · cases h
def fmTruth : Fm where
  α := Bool
  sg := fun a => [.cl (.xv (.bool (a)))]
  sz := 1
  d := (false)
  of := fun
    | [.cl (.xv (.bool v0))] => bif Nat.beq 0 0 then some (v0) else none
    | _ => none
  wf := fun a => True
  hd := by simp
  hsz := fun _ => rfl
  hok := fun _ => rfl
  hwf := fun a => by simp [c0wf, Sg0.wf]
  hmk := fun l a h => by
    split at h
    · simp only [cond_eq_ite] at h
      split at h
      · rename_i hc
        simp only [Bool.and_eq_true, decide_eq_true_eq, Nat.beq_eq] at hc
        simp only [Option.some.injEq] at h
        subst h
        simp_all
      · cases h
    · cases h
  pos := by decide
  kds := some [.bool]
  hkd := fun ks h a _ => by cases h; rfl
  dec := some inferInstance
  hdec := fun _ a b _ _ h => by
    simp only [c0den, Sg0.den, S0.den, List.cons_append, List.nil_append, List.cons.injEq, Value.int.injEq, Value.bool.injEq, true_and, and_true] at h
    exact h
def FMp : Nat → Fm
  | 0 => fmHash
  | 1 => fmAccount
  | 2 => fmOut
  | 3 => fmCode
  | 4 => fmBytes
  | 5 => fmHashed
  | 6 => fmDelayed
  | _ => fmTruth
end Go.Px
