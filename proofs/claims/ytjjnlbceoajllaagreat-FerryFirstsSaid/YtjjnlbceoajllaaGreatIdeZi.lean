/- What came in, as ideal blocks. -/
import Derived.Test.YtjjnlbceoajllaaGreatIdeZh
import Derived.ProofKit
set_option linter.unusedVariables false
set_option linter.unusedSimpArgs false
namespace Ide
open Go Go.RowKit

theorem mapM_each {α γ : Type} {f : α → Option γ} : ∀ {l : List α} {r : List γ}, l.mapM f = some r → ∀ x ∈ l, ∃ y, f x = some y
  | [], _, _, x, hx => by cases hx
  | a :: l, r, h, x, hx => by
    rw [List.mapM_cons] at h
    cases ha : f a with
    | none => rw [ha] at h; simp at h
    | some y =>
      rw [ha] at h
      cases hl : l.mapM f with
      | none => simp [hl] at h
      | some ys =>
        rcases List.mem_cons.1 hx with rfl | hx
        · exact ⟨y, ha⟩
        · exact mapM_each hl x hx

section
variable {H : Type} {enc : TypeId × Value → H} {P : Program} {w : World} {base : Nat} {sp : Nat → Bool} {held : Bool}

theorem trod_slice {fuel : Nat} {t e : TypeId} {c : Value} {r : DataW H × List MemPlace} (hu : P.underlying t = some (.slice e)) (h : DataW.trod enc P w base sp held fuel t [c] = some r) :
    c = .slice none 0 0 ∨ ∃ a len cap, c = .slice (some a) len cap ∧ len ≤ cap ∧ cap ≤ maxLen ∧ ∃ fuel', ∀ i, i < len → ∃ cs r, w.cells? base (a.add (i * P.cellsOf e)) (P.cellsOf e) = some cs ∧ DataW.trod enc P w base sp held fuel' e cs = some r := by
  cases fuel with
  | zero => simp [DataW.trod] at h
  | succ fuel =>
    unfold DataW.trod at h
    rw [hu] at h
    cases c <;> try (simp at h; done)
    rename_i a len cap
    cases a with
    | none =>
      cases len <;> cases cap <;> first | exact .inl rfl | (simp at h; done)
    | some a =>
      simp only at h
      split at h
      · rename_i hc
        refine .inr ⟨a, len, cap, rfl, hc.2.1, hc.2.2, fuel, fun i hi => ?_⟩
        obtain ⟨elems, he, _⟩ := Option.bind_eq_some_iff.1 h
        obtain ⟨y, hy⟩ := mapM_each he i (List.mem_range.2 hi)
        obtain ⟨cs, h1, h2⟩ := Option.bind_eq_some_iff.1 hy
        exact ⟨cs, y, h1, h2⟩
      · cases h

theorem trod_fields {fuel : Nat} {t : TypeId} {fs : Array Field} {cs : List Value} {r : DataW H × List MemPlace} (hu : P.underlying t = some (.struct fs)) (h : DataW.trod enc P w base sp held fuel t cs = some r) :
    cs.length = P.cellsOf t ∧ ∃ fuel', ∀ f ∈ fs.toList, ∃ r, DataW.trod enc P w base sp held fuel' f.type ((cs.drop f.offset).take (P.cellsOf f.type)) = some r := by
  cases fuel with
  | zero => simp [DataW.trod] at h
  | succ fuel =>
    unfold DataW.trod at h
    rw [hu] at h
    simp only at h
    split at h
    · rename_i hc
      refine ⟨hc, fuel, fun f hf => ?_⟩
      obtain ⟨xs, hx, _⟩ := Option.map_eq_some_iff.1 h
      exact mapM_each hx f hf
    · cases h

theorem trod_int' {fuel : Nat} {t : TypeId} {k : IntKind} {cs : List Value} {r : DataW H × List MemPlace} (hu : P.underlying t = some (.int k)) (h : DataW.trod enc P w base sp held fuel t cs = some r) : ∃ n, cs = [.int k n] ∧ (Lit.int k n).wf = true := by
  cases fuel with
  | zero => simp [DataW.trod] at h
  | succ fuel =>
    unfold DataW.trod at h
    rw [hu] at h
    cases cs with
    | nil => simp at h
    | cons c cs =>
      cases c <;> cases cs <;> try (simp at h; done)
      rename_i k' n
      simp only at h
      split at h
      · rename_i hc; rw [hc.1]; exact ⟨n, rfl, hc.2⟩
      · cases h

theorem trod_bool' {fuel : Nat} {t : TypeId} {cs : List Value} {r : DataW H × List MemPlace} (hu : P.underlying t = some .bool) (h : DataW.trod enc P w base sp held fuel t cs = some r) : ∃ b, cs = [.bool b] := by
  cases fuel with
  | zero => simp [DataW.trod] at h
  | succ fuel =>
    unfold DataW.trod at h
    rw [hu] at h
    cases cs with
    | nil => simp at h
    | cons c cs =>
      cases c <;> cases cs <;> first | exact ⟨_, rfl⟩ | (simp at h; done)

theorem trod_str' {fuel : Nat} {t : TypeId} {cs : List Value} {r : DataW H × List MemPlace} (hu : P.underlying t = some .string) (h : DataW.trod enc P w base sp held fuel t cs = some r) : ∃ s, cs = [.string s] ∧ s.size ≤ maxLen := by
  cases fuel with
  | zero => simp [DataW.trod] at h
  | succ fuel =>
    unfold DataW.trod at h
    rw [hu] at h
    cases cs with
    | nil => simp at h
    | cons c cs =>
      cases c <;> cases cs <;> try (simp at h; done)
      simp only at h
      split at h
      · rename_i hc; exact ⟨_, rfl, hc⟩
      · cases h

end

theorem list_of {α : Type} {p : Nat → α → Prop} : ∀ (n : Nat), (∀ i, i < n → ∃ x, p i x) → ∃ l : List α, l.length = n ∧ ∀ i x, l[i]? = some x → p i x
  | 0, _ => ⟨[], rfl, fun i x h => by simp at h⟩
  | n + 1, h => by
    obtain ⟨l, h1, h2⟩ := list_of n fun i hi => h i (Nat.lt_succ_of_lt hi)
    obtain ⟨x, hx⟩ := h n (Nat.lt_succ_self n)
    refine ⟨l ++ [x], by simp [h1], fun i y hy => ?_⟩
    by_cases hi : i < l.length
    · rw [List.getElem?_append_left hi] at hy
      exact h2 i y hy
    · rw [List.getElem?_append_right (by omega)] at hy
      have : i - l.length = 0 := by
        have := (List.getElem?_eq_some_iff.1 hy).1
        simp at this
        omega
      rw [this] at hy
      simp at hy
      subst hy
      have : i = n := by omega
      rw [this]
      exact hx

theorem cells_two {w : World} {a : Addr} {cs : List Value} (h : w.cells? 0 a 2 = some cs) : ∃ x y, cs = [x, y] ∧ w.cell? (a.add 0) = some x ∧ w.cell? (a.add 1) = some y := by
  unfold World.cells? at h
  rw [if_pos (Nat.zero_le _)] at h
  have e : List.range 2 = [0, 1] := rfl
  rw [e] at h
  simp only [List.mapM_cons, List.mapM_nil] at h
  cases h0 : w.cell? (a.add 0) with
  | none => simp [h0] at h
  | some x =>
    cases h1 : w.cell? (a.add 1) with
    | none => simp [h0, h1] at h
    | some y => simp [h0, h1] at h; exact ⟨x, y, h.symm, rfl, rfl⟩

/-- The embedding of blocks that came in. -/
def embRo (W : World) (ls : List (Option Loc)) : Emb := { w0 := W, loc := fun i => (ls[i]?).join, held := fun _ => False }

theorem sim_ro (W : World) (ls : List (Option Loc)) (H : IHeap) (hlen : ls.length = H.length)
    (h : ∀ (i : Nat) (l : Loc), ls[i]? = some (some l) → l.block < W.heap.size ∧ l.rw = false ∧ ∃ cs, H[i]? = some (IObj.cells cs false) ∧ ground.groundL cs = true ∧ ∀ j v, cs[j]? = some v → W.cell? ⟨l.block, l.base + j, none⟩ = some v) : Sim (embRo W ls) H W := by
  have get : ∀ {i l}, (embRo W ls).loc i = some l → ls[i]? = some (some l) := by
    intro i l hl
    have hl : (ls[i]?).join = some l := hl
    cases hg : ls[i]? with
    | none => rw [hg] at hl; cases hl
    | some x => rw [hg] at hl; cases x with
      | none => cases hl
      | some x => simp at hl; rw [hl]
  exact {
    below := Below.refl _ _
    dom := fun i l hl => by have := (List.getElem?_eq_some_iff.1 (get hl)).1; omega
    held := fun i hh => hh.elim
    blk := fun i l hl => (h i l (get hl)).1
    obj := fun i l o hl ho => by
      obtain ⟨h1, h2, cs, h3, h4, h5⟩ := h i l (get hl)
      rw [h3] at ho
      cases ho
      exact ⟨h2, h1, cs, VsRel.of_ground _ _ h4, h5⟩
    inj := fun i j l l' o o' hl hl' ho ho' hown _ _ => by
      obtain ⟨h1, h2, cs, h3, h4, h5⟩ := h i l (get hl)
      rw [h3] at ho
      cases ho
      cases hown }

end Ide
