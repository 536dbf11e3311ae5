/- A reckoner for the ideal meaning: memory as trees. -/
import Derived.Test.YtjjnlbceoajllaaGreatIdeT
set_option linter.unusedVariables false
set_option linter.unusedSimpArgs false
namespace Ide
open Go Go.RowKit

/-! ### trees -/
inductive Tr (α : Type) where
  | nil
  | node (v : Option α) (l r : Tr α)

def Tr.get {α : Type} : Tr α → Nat → Option α
  | .nil, _ => none
  | .node v l r, k =>
    match k with
    | 0 => v
    | k + 1 => bif Nat.beq (k % 2) 0 then l.get (k / 2) else r.get (k / 2)

def Tr.val {α : Type} : Tr α → Option α
  | .nil => none
  | .node v _ _ => v
def Tr.left {α : Type} : Tr α → Tr α
  | .nil => .nil
  | .node _ l _ => l
def Tr.right {α : Type} : Tr α → Tr α
  | .nil => .nil
  | .node _ _ r => r

def Tr.set {α : Type} : Nat → Tr α → Nat → α → Option (Tr α)
  | 0, _, _, _ => none
  | f + 1, t, k, a =>
    match k with
    | 0 => some (.node (some a) t.left t.right)
    | k + 1 =>
      bif Nat.beq (k % 2) 0 then
        match Tr.set f t.left (k / 2) a with
        | some l => some (.node t.val l t.right)
        | none => none
      else
        match Tr.set f t.right (k / 2) a with
        | some r => some (.node t.val t.left r)
        | none => none

theorem Tr.get_parts {α : Type} (t : Tr α) (k : Nat) : t.get (k + 1) = bif Nat.beq (k % 2) 0 then t.left.get (k / 2) else t.right.get (k / 2) := by
  cases t with
  | nil => cases Nat.beq (k % 2) 0 <;> rfl
  | node v l r => rfl
theorem Tr.get_zero {α : Type} (t : Tr α) : t.get 0 = t.val := by cases t <;> rfl

theorem Tr.get_set {α : Type} : ∀ (f : Nat) (t : Tr α) (k : Nat) (a : α) (t' : Tr α), Tr.set f t k a = some t' → ∀ j, t'.get j = if j = k then some a else t.get j
  | 0, _, _, _, _, h, _ => by cases h
  | f + 1, t, 0, a, t', h, j => by
    simp only [Tr.set, Option.some.injEq] at h
    subst h
    cases j with
    | zero => rfl
    | succ j => rw [if_neg (by omega), Tr.get_parts, Tr.get_parts]; rfl
  | f + 1, t, k + 1, a, t', h, j => by
    simp only [Tr.set] at h
    cases hb : Nat.beq (k % 2) 0 with
    | true =>
      rw [hb] at h
      simp only [cond_true] at h
      split at h
      · rename_i l hl
        cases h
        cases j with
        | zero => rw [if_neg (by omega), Tr.get_zero t]; rfl
        | succ j =>
          rw [Tr.get_parts, Tr.get_parts]
          have ih := Tr.get_set f t.left (k / 2) a l hl (j / 2)
          have hk : k % 2 = 0 := Nat.eq_of_beq_eq_true hb
          cases hj : Nat.beq (j % 2) 0 with
          | true =>
            have hj' : j % 2 = 0 := Nat.eq_of_beq_eq_true hj
            show l.get (j / 2) = _
            rw [ih]
            by_cases e : j = k
            · rw [if_pos (by rw [e]), if_pos (by rw [e])]
            · rw [if_neg (by omega), if_neg (by omega)]; rfl
          | false =>
            have hj' : j % 2 ≠ 0 := fun e => by rw [e] at hj; cases hj
            rw [if_neg (by omega)]
            rfl
      · cases h
    | false =>
      rw [hb] at h
      simp only [cond_false] at h
      split at h
      · rename_i r hr
        cases h
        have hk : k % 2 ≠ 0 := fun e => by rw [e] at hb; cases hb
        cases j with
        | zero => rw [if_neg (by omega), Tr.get_zero t]; rfl
        | succ j =>
          rw [Tr.get_parts, Tr.get_parts]
          have ih := Tr.get_set f t.right (k / 2) a r hr (j / 2)
          cases hj : Nat.beq (j % 2) 0 with
          | true =>
            have hj' : j % 2 = 0 := Nat.eq_of_beq_eq_true hj
            rw [if_neg (by omega)]
            rfl
          | false =>
            have hj' : j % 2 ≠ 0 := fun e => by rw [e] at hj; cases hj
            show r.get (j / 2) = _
            rw [ih]
            by_cases e : j = k
            · rw [if_pos (by rw [e]), if_pos (by rw [e])]
            · rw [if_neg (by omega), if_neg (by omega)]; rfl
      · cases h

/-! ### environments and heaps -/
abbrev XEnv := Tr Value
structure XHeap where
  n : Nat
  t : Tr IObj

def XEnv.lk (e : XEnv) (t : Nat) : Value :=
  match e.get t with
  | some v => v
  | none => anyV

def RepE (env : Env) (e : XEnv) : Prop := ∀ t, lk env t = XEnv.lk e t
def RepH (H : IHeap) (h : XHeap) : Prop := H.length = h.n ∧ ∀ i, H[i]? = h.t.get i

def xput (e : XEnv) (d : Option Nat) (v : Value) : Option XEnv :=
  match d with
  | none => some e
  | some t => Tr.set 20 e t v

theorem xput_rep {env : Env} {e e' : XEnv} {d : Option Nat} {v : Value} (h : RepE env e) (hp : xput e d v = some e') : RepE (put env d v) e' := by
  intro t
  rw [lk_put]
  cases d with
  | none => cases hp; simpa using h t
  | some s =>
    have := Tr.get_set 20 e s v e' hp t
    unfold XEnv.lk
    rw [this]
    by_cases he : t = s
    · subst he; simp
    · rw [if_neg (by simp; exact fun h => he h.symm), if_neg he]
      exact h t

def XHeap.push (h : XHeap) (o : IObj) : Option XHeap :=
  match Tr.set 40 h.t h.n o with
  | some t => some ⟨h.n + 1, t⟩
  | none => none

def XHeap.set (h : XHeap) (i : Nat) (o : IObj) : Option XHeap :=
  bif Nat.blt i h.n then
    match Tr.set 40 h.t i o with
    | some t => some ⟨h.n, t⟩
    | none => none
  else none

theorem push_rep {H : IHeap} {h h' : XHeap} {o : IObj} (hr : RepH H h) (hp : h.push o = some h') : RepH (H ++ [o]) h' := by
  unfold XHeap.push at hp
  split at hp
  · rename_i t ht
    cases hp
    refine ⟨by simp [hr.1], fun i => ?_⟩
    rw [Tr.get_set 40 _ _ _ _ ht i, ← hr.1]
    by_cases e : i = H.length
    · subst e; simp
    · rw [if_neg e, ← hr.2 i]
      by_cases hlt : i < H.length
      · rw [List.getElem?_append_left hlt]
      · rw [List.getElem?_eq_none (by simp; omega), List.getElem?_eq_none (by omega)]
  · cases hp

theorem set_rep {H : IHeap} {h h' : XHeap} {i : Nat} {o : IObj} (hr : RepH H h) (hp : h.set i o = some h') : RepH (H.set i o) h' := by
  unfold XHeap.set at hp
  cases hb : Nat.blt i h.n with
  | false => rw [hb] at hp; cases hp
  | true =>
    rw [hb] at hp
    simp only [cond_true] at hp
    split at hp
    · rename_i t ht
      cases hp
      have hlt : i < H.length := by rw [hr.1]; simpa [Nat.blt_eq] using hb
      refine ⟨by simp [hr.1], fun j => ?_⟩
      rw [Tr.get_set 40 _ _ _ _ ht j]
      by_cases e : j = i
      · subst e; simp [hlt]
      · rw [if_neg e, List.getElem?_set_ne (fun h => e h.symm)]; exact hr.2 j
    · cases hp

end Ide
