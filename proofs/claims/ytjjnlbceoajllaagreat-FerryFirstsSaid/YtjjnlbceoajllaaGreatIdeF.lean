/- Equality of cells, and of aggregates. -/
import Derived.Test.YtjjnlbceoajllaaGreatIdeE
import Derived.Laws.StructEq
import Derived.ChangeKeysEq
set_option linter.unusedVariables false
set_option linter.unusedSimpArgs false
namespace Ide
open Go Go.RowKit

theorem kbeq_eq {j k : IntKind} (h : kbeq j k = true) : j = k := by cases j <;> cases k <;> first | rfl | simp [kbeq] at h
theorem kbeq_self (k : IntKind) : kbeq k k = true := by cases k <;> rfl

theorem eq1_sound {P : Program} {w : World} {t : TypeId} {x y : Value} {b : Bool} (d : Nat) (h : eq1 (P.underlying t) x y = some b) : (Op.equalIn (d + 1) t x y).run P w = .ok b w := by
  unfold eq1 at h
  split at h
  · rename_i k0 k a j c hu
    cases hb : kbeq k j with
    | false => simp [hb] at h
    | true =>
      obtain rfl := kbeq_eq hb
      simp only [hb, cond_true, Option.some.injEq] at h
      subst h
      exact run_equalIn_int w d t k k0 a c hu
  · simp only [Option.some.injEq] at h; subst h; exact run_equalIn_bool' w d t _ _ ‹_›
  · simp only [Option.some.injEq] at h; subst h; exact run_equalIn_string w d t _ _ ‹_›
  · cases h

theorem eqB_lengths {P : Program} : ∀ {l : List TypeId} {xs ys : List Value} {b : Bool}, eqB P l xs ys = some b → xs.length = l.length ∧ ys.length = l.length
  | [], [], [], _, _ => ⟨rfl, rfl⟩
  | [], [], _ :: _, _, h => by simp [eqB] at h
  | [], _ :: _, _, _, h => by simp [eqB] at h
  | _ :: _, [], _, _, h => by simp [eqB] at h
  | _ :: _, _ :: _, [], _, h => by simp [eqB] at h
  | t :: ts, x :: xs, y :: ys, b, h => by
    simp only [eqB] at h
    split at h
    · rename_i c1 c2 h1 h2
      have := eqB_lengths h2
      simp [this.1, this.2]
    · cases h

theorem eqB_append {P : Program} : ∀ {l r : List TypeId} {xs ys : List Value} {b : Bool}, eqB P (l ++ r) xs ys = some b →
    ∃ b1 b2, eqB P l (xs.take l.length) (ys.take l.length) = some b1 ∧ eqB P r (xs.drop l.length) (ys.drop l.length) = some b2 ∧ b = (b1 && b2)
  | [], r, xs, ys, b, h => ⟨true, b, by simp [eqB], by simpa using h, by simp⟩
  | t :: l, r, [], ys, b, h => by have := (eqB_lengths h).1; simp at this
  | t :: l, r, x :: xs, [], b, h => by have := (eqB_lengths h).2; simp at this
  | t :: l, r, x :: xs, y :: ys, b, h => by
    simp only [List.cons_append, eqB] at h
    split at h
    · rename_i c1 c2 h1 h2
      obtain ⟨b1, b2, g1, g2, g3⟩ := eqB_append h2
      simp only [Option.some.injEq] at h
      refine ⟨c1 && b1, b2, ?_, by simpa using g2, ?_⟩
      · simp [eqB, h1, g1]
      · rw [← h, g3, Bool.and_assoc]
    · cases h

/-- v is a value of the type t with these cells. -/
def IsV (P : Program) (t : TypeId) (v : Value) (xs : List Value) : Prop :=
  match isAggT P t with
  | true => v = .agg ⟨xs⟩
  | false => xs = [v]

theorem run_part {P : Program} {w : World} {t : TypeId} {d : TypeDesc} {xs : List Value} {off : Nat} (hd : P.underlying t = some d) (h : off + ssz P t ≤ xs.length) (h1 : isAggT P t = false → ssz P t = 1) :
    ∃ v, (Go.part t ⟨xs⟩ off).run P w = .ok v w ∧ IsV P t v ((xs.drop off).take (ssz P t)) := by
  obtain ⟨i, hi⟩ := info_of_underlying hd
  have hs := ssz_of hi
  unfold Go.part
  simp only [Sem.run_bind, run_isAgg hd, Result.andThen_ok]
  by_cases ha : aggD d = true
  · have hA : isAggT P t = true := by unfold isAggT; rw [hd]; cases d <;> simp_all [aggD]
    refine ⟨.agg ⟨(xs.drop off).take (ssz P t)⟩, ?_, by simp [IsV, hA]⟩
    simp only [ha, if_true, Sem.run_bind, run_sz hi, Result.andThen_ok, Sem.run_pure]
    congr 2
    apply Array.ext'
    simp [hs, List.extract_eq_take_drop]
  · have hA : isAggT P t = false := by unfold isAggT; rw [hd]; cases d <;> simp_all [aggD]
    have h1' := h1 hA
    have hlt : off < xs.length := by omega
    refine ⟨xs[off], ?_, ?_⟩
    · simp [ha, hlt]
    · simp only [IsV, hA, h1']
      rw [List.take_one, List.head?_drop]
      simp [hlt]

theorem flat_und {P : Program} {D : Nat} {t : TypeId} {l : List TypeId} (h : flat P D t = some l) : ∃ d, P.underlying t = some d := by
  cases D with
  | zero => simp [flat] at h
  | succ D =>
    unfold flat at h
    cases hu : P.underlying t with
    | none => simp [hu] at h
    | some d => exact ⟨d, rfl⟩

theorem flat_one {P : Program} {D : Nat} {t : TypeId} {l : List TypeId} (h : flat P D t = some l) (ha : isAggT P t = false) : l = [t] := by
  cases D with
  | zero => simp [flat] at h
  | succ D =>
    unfold flat at h
    unfold isAggT at ha
    split at h <;> simp_all

/-- Equality of two values of such a type. -/
theorem equalIn_flat {P : Program} {w : World} : ∀ (D : Nat) {t : TypeId} {l : List TypeId}, flat P D t = some l → ∀ (d : Nat), D ≤ d → ∀ {v u : Value} {xs ys : List Value} {b : Bool}, IsV P t v xs → IsV P t u ys →
    eqB P l xs ys = some b → (Op.equalIn d t v u).run P w = .ok b w := by
  intro D
  induction D with
  | zero => intro t l h; simp [flat] at h
  | succ D ih =>
    intro t l h d hd v u xs ys b hv hu hb
    obtain ⟨d, rfl⟩ : ∃ m, d = m + 1 := ⟨d - 1, by omega⟩
    cases hA : isAggT P t with
    | false =>
      obtain rfl := flat_one h hA
      simp only [IsV, hA] at hv hu
      subst hv; subst hu
      simp only [eqB] at hb
      split at hb
      · rename_i c1 c2 h1 h2
        simp only [Option.some.injEq] at h2 hb
        subst h2; subst hb
        rw [Bool.and_true]
        exact eq1_sound d h1
      · cases hb
    | true =>
      simp only [IsV, hA] at hv hu
      subst hv; subst hu
      have hfld : ∀ (fs : List Field) (off : Nat) (r : List TypeId) (b : Bool), flatFs P (flat P D) fs off = some r → off ≤ xs.length → off ≤ ys.length → eqB P r (xs.drop off) (ys.drop off) = some b → (Op.eqFields d ⟨xs⟩ ⟨ys⟩ fs).run P w = .ok b w := by
        intro fs
        induction fs with
        | nil =>
          intro off r b hr hox hoy hb
          simp only [flatFs, Option.some.injEq] at hr
          subst hr
          cases h1 : xs.drop off with
          | nil => cases h2 : ys.drop off with
            | nil => simp [h1, h2, eqB] at hb; subst hb; simp [Op.eqFields]
            | cons _ _ => simp [h1, h2, eqB] at hb
          | cons _ _ => simp [h1, eqB] at hb
        | cons f fs ihf =>
          intro off r b hr hox hoy hb
          simp only [flatFs] at hr
          split at hr
          · rename_i l1 r1 g1 g2
            cases hc : (Nat.beq f.offset off && Nat.beq (ssz P f.type) l1.length && !(f.name == "_")) with
            | false => simp [hc] at hr
            | true =>
              simp only [hc, cond_true, Option.some.injEq] at hr
              subst hr
              simp only [Bool.and_eq_true, Bool.not_eq_true'] at hc
              obtain ⟨⟨ho, hs⟩, hn⟩ := hc
              have ho := Nat.eq_of_beq_eq_true ho
              have hs := Nat.eq_of_beq_eq_true hs
              obtain ⟨b1, b2, e1, e2, e3⟩ := eqB_append hb
              rw [← hs] at e1 e2
              have lx := (eqB_lengths hb).1
              have ly := (eqB_lengths hb).2
              simp at lx ly
              obtain ⟨df, hdf⟩ := flat_und g1
              have hone : isAggT P f.type = false → ssz P f.type = 1 := fun ha => by rw [hs, flat_one g1 ha]; rfl
              obtain ⟨v1, p1, q1⟩ := run_part (w := w) (xs := xs) (off := off) hdf (by omega) hone
              obtain ⟨v2, p2, q2⟩ := run_part (w := w) (xs := ys) (off := off) hdf (by omega) hone
              have heq := ih g1 d (by omega) q1 q2 e1
              have hrest := ihf (off + ssz P f.type) r1 b2 g2 (by omega) (by omega) (by rw [← List.drop_drop, ← List.drop_drop]; exact e2)
              have hn' : f.name ≠ "_" := by simpa using hn
              simp only [Op.eqFields, hn', ne_eq, not_false_eq_true, if_true, Sem.run_bind, ho, p1, p2, heq, Result.andThen_ok]
              subst e3
              cases b1 with
              | false => simp
              | true => simpa using hrest
          · cases hr
      have hitm : ∀ (e : TypeId) (le : List TypeId), flat P D e = some le → ssz P e = le.length → P.cellsOf e = le.length → ∀ (n k : Nat) (b : Bool), k * le.length ≤ xs.length → k * le.length ≤ ys.length → eqB P ((List.replicate n le).flatten) (xs.drop (k * le.length)) (ys.drop (k * le.length)) = some b → (Op.eqItems d e (P.cellsOf e) ⟨xs⟩ ⟨ys⟩ (List.range' k n)).run P w = .ok b w := by
        intro e le g1 hs hce n
        induction n with
        | zero =>
          intro k b hkx hky hb
          simp only [List.replicate_zero, List.flatten_nil] at hb
          cases h1 : xs.drop (k * le.length) with
          | nil => cases h2 : ys.drop (k * le.length) with
            | nil => simp [h1, h2, eqB] at hb; subst hb; simp [Op.eqItems]
            | cons _ _ => simp [h1, h2, eqB] at hb
          | cons _ _ => simp [h1, eqB] at hb
        | succ n ihn =>
          intro k b hkx hky hb
          rw [List.replicate_succ, List.flatten_cons] at hb
          obtain ⟨b1, b2, e1, e2, e3⟩ := eqB_append hb
          have lx := (eqB_lengths hb).1
          have ly := (eqB_lengths hb).2
          simp at lx ly
          obtain ⟨df, hdf⟩ := flat_und g1
          have hone : isAggT P e = false → ssz P e = 1 := fun ha => by rw [hs, flat_one g1 ha]; rfl
          have hnn : le.length ≤ le.length + n * le.length := by omega
          obtain ⟨v1, p1, q1⟩ := run_part (w := w) (xs := xs) (off := k * le.length) hdf (by omega) hone
          obtain ⟨v2, p2, q2⟩ := run_part (w := w) (xs := ys) (off := k * le.length) hdf (by omega) hone
          rw [hs] at q1 q2
          have heq := ih g1 d (by omega) q1 q2 e1
          have hrest := ihn (k + 1) b2 (by rw [Nat.succ_mul]; omega) (by rw [Nat.succ_mul]; omega) (by rw [Nat.succ_mul, ← List.drop_drop, ← List.drop_drop]; exact e2)
          rw [List.range'_succ]
          rw [← hce] at p1 p2
          simp only [Op.eqItems, Sem.run_bind, p1, p2, heq, Result.andThen_ok]
          subst e3
          cases b1 with
          | false => simp
          | true => simpa using hrest
      unfold flat at h
      split at h
      · rename_i k hk; simp [isAggT, hk] at hA
      · rename_i hk; simp [isAggT, hk] at hA
      · rename_i hk; simp [isAggT, hk] at hA
      · rename_i fs hfs
        cases hh : P.stoodInHeld t with
        | true => simp [hh] at h
        | false =>
          simp only [hh, cond_false] at h
          rw [run_equalIn_struct w d t _ _ (by simp [Program.fieldsOf, hfs]) hh]
          simp only [Program.fieldsOf, hfs]
          exact hfld fs 0 l b h (by simp) (by simp) (by simpa using hb)
      · rename_i n e hne
        split at h
        · rename_i le g1
          cases hc : (Nat.beq (ssz P e) le.length && Nat.beq (P.cellsOf e) le.length) with
          | false => simp [hc] at h
          | true =>
            simp only [hc, cond_true, Option.some.injEq] at h
            simp only [Bool.and_eq_true] at hc
            have hc1 := Nat.eq_of_beq_eq_true hc.1
            have hc2 := Nat.eq_of_beq_eq_true hc.2
            obtain ⟨df, hdf⟩ := flat_und g1
            obtain ⟨i, hi⟩ := info_of_underlying hdf
            rw [run_equalIn_array w d _ _ hne hi, List.range_eq_range']
            exact hitm e le g1 hc1 hc2 n 0 b (by simp) (by simp) (by subst h; simpa using hb)
        · cases h
      · cases h

end Ide
