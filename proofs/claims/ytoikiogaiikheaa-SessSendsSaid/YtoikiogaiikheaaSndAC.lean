/- Equality of cells, and of aggregates. -/
import Derived.Test.YtoikiogaiikheaaSndAB
import Derived.Laws.StructEq
import Derived.ChangeKeysEq
set_option linter.unusedSectionVars false
set_option linter.unusedVariables false
set_option linter.unusedSimpArgs false
namespace Ide
open Go Go.RowKit
variable [Pol]

theorem kbeq_eq {j k : IntKind} (h : kbeq j k = true) : j = k := by cases j <;> cases k <;> first | rfl | simp [kbeq] at h
theorem kbeq_self (k : IntKind) : kbeq k k = true := by cases k <;> rfl

theorem eq1_sound {P : Program} {w : World} {t : TypeId} {x y : Value} {b : Bool} (d : Nat) (h : eq1 (P.underlying t) x y = some b) : (Op.equalIn (d + 1) t x y).run P w = .ok b w := by
  unfold eq1 at h
  split at h
  · rename_i k0 k a j c hu
    cases hb : kbeq k j with
    | false => simp [hb] at h
    | true =>
      obtain rfl := kbeq_eq hb
      simp only [hb, cond_true, Option.some.injEq] at h
      subst h
      exact run_equalIn_int w d t k k0 a c hu
  · simp only [Option.some.injEq] at h; subst h; exact run_equalIn_bool' w d t _ _ ‹_›
  · simp only [Option.some.injEq] at h; subst h; exact run_equalIn_string w d t _ _ ‹_›
  · cases h

theorem eqB_lengths {P : Program} : ∀ {l : List TypeId} {xs ys : List Value} {b : Bool}, eqB P l xs ys = some b → xs.length = l.length ∧ ys.length = l.length
  | [], [], [], _, _ => ⟨rfl, rfl⟩
  | [], [], _ :: _, _, h => by simp [eqB] at h
  | [], _ :: _, _, _, h => by simp [eqB] at h
  | _ :: _, [], _, _, h => by simp [eqB] at h
  | _ :: _, _ :: _, [], _, h => by simp [eqB] at h
  | t :: ts, x :: xs, y :: ys, b, h => by
    simp only [eqB] at h
    split at h
    · rename_i c1 c2 h1 h2
      have := eqB_lengths h2
      simp [this.1, this.2]
    · cases h

theorem eqB_append {P : Program} : ∀ {l r : List TypeId} {xs ys : List Value} {b : Bool}, eqB P (l ++ r) xs ys = some b →
    ∃ b1 b2, eqB P l (xs.take l.length) (ys.take l.length) = some b1 ∧ eqB P r (xs.drop l.length) (ys.drop l.length) = some b2 ∧ b = (b1 && b2)
  | [], r, xs, ys, b, h => ⟨true, b, by simp [eqB], by simpa using h, by simp⟩
  | t :: l, r, [], ys, b, h => by have := (eqB_lengths h).1; simp at this
  | t :: l, r, x :: xs, [], b, h => by have := (eqB_lengths h).2; simp at this
  | t :: l, r, x :: xs, y :: ys, b, h => by
    simp only [List.cons_append, eqB] at h
    split at h
    · rename_i c1 c2 h1 h2
      obtain ⟨b1, b2, g1, g2, g3⟩ := eqB_append h2
      simp only [Option.some.injEq] at h
      refine ⟨c1 && b1, b2, ?_, by simpa using g2, ?_⟩
      · simp [eqB, h1, g1]
      · rw [← h, g3, Bool.and_assoc]
    · cases h

/-- v is a value of the type t with these cells. -/
def IsV (P : Program) (t : TypeId) (v : Value) (xs : List Value) : Prop :=
  match isAggT P t with
  | true => v = .agg ⟨xs⟩
  | false => xs = [v]

theorem run_part {P : Program} {w : World} {t : TypeId} {d : TypeDesc} {xs : List Value} {off : Nat} (hd : P.underlying t = some d) (h : off + ssz P t ≤ xs.length) (h1 : isAggT P t = false → ssz P t = 1) :
    ∃ v, (Go.part t ⟨xs⟩ off).run P w = .ok v w ∧ IsV P t v ((xs.drop off).take (ssz P t)) := by
  obtain ⟨i, hi⟩ := info_of_underlying hd
  have hs := ssz_of hi
  unfold Go.part
  simp only [Sem.run_bind, run_isAgg hd, Result.andThen_ok]
  by_cases ha : aggD d = true
  · have hA : isAggT P t = true := by unfold isAggT; rw [hd]; cases d <;> simp_all [aggD]
    refine ⟨.agg ⟨(xs.drop off).take (ssz P t)⟩, ?_, by simp [IsV, hA]⟩
    simp only [ha, if_true, Sem.run_bind, run_sz hi, Result.andThen_ok, Sem.run_pure]
    congr 2
    apply Array.ext'
    simp [hs, List.extract_eq_take_drop]
  · have hA : isAggT P t = false := by unfold isAggT; rw [hd]; cases d <;> simp_all [aggD]
    have h1' := h1 hA
    have hlt : off < xs.length := by omega
    refine ⟨xs[off], ?_, ?_⟩
    · simp [ha, hlt]
    · simp only [IsV, hA, h1']
      rw [List.take_one, List.head?_drop]
      simp [hlt]

theorem flat_und {P : Program} {D : Nat} {t : TypeId} {l : List TypeId} (h : flat P D t = some l) : ∃ d, P.underlying t = some d := by
  cases D with
  | zero => simp [flat] at h
  | succ D =>
    unfold flat at h
    cases hu : P.underlying t with
    | none => simp [hu] at h
    | some d => exact ⟨d, rfl⟩

theorem flat_one {P : Program} {D : Nat} {t : TypeId} {l : List TypeId} (h : flat P D t = some l) (ha : isAggT P t = false) : l = [t] := by
  cases D with
  | zero => simp [flat] at h
  | succ D =>
    unfold flat at h
    unfold isAggT at ha
    split at h <;> simp_all

/-- Equality of two values of such a type. -/
theorem equalIn_flat {P : Program} {w : World} : ∀ (D : Nat) {t : TypeId} {l : List TypeId}, flat P D t = some l → ∀ (d : Nat), D ≤ d → ∀ {v u : Value} {xs ys : List Value} {b : Bool}, IsV P t v xs → IsV P t u ys →
    eqB P l xs ys = some b → (Op.equalIn d t v u).run P w = .ok b w := by
  intro D
  induction D with
  | zero => intro t l h; simp [flat] at h
  | succ D ih =>
    intro t l h d hd v u xs ys b hv hu hb
    obtain ⟨d, rfl⟩ : ∃ m, d = m + 1 := ⟨d - 1, by omega⟩
    cases hA : isAggT P t with
    | false =>
      obtain rfl := flat_one h hA
      simp only [IsV, hA] at hv hu
      subst hv; subst hu
      simp only [eqB] at hb
      split at hb
      · rename_i c1 c2 h1 h2
        simp only [Option.some.injEq] at h2 hb
        subst h2; subst hb
        rw [Bool.and_true]
        exact eq1_sound d h1
      · cases hb
    | true =>
      simp only [IsV, hA] at hv hu
      subst hv; subst hu
      have hfld : ∀ (fs : List Field) (off : Nat) (r : List TypeId) (b : Bool), flatFs P (flat P D) fs off = some r → off ≤ xs.length → off ≤ ys.length → eqB P r (xs.drop off) (ys.drop off) = some b → (Op.eqFields d ⟨xs⟩ ⟨ys⟩ fs).run P w = .ok b w := by
        intro fs
        induction fs with
        | nil =>
          intro off r b hr hox hoy hb
          simp only [flatFs, Option.some.injEq] at hr
          subst hr
          cases h1 : xs.drop off with
          | nil => cases h2 : ys.drop off with
            | nil => simp [h1, h2, eqB] at hb; subst hb; simp [Op.eqFields]
            | cons _ _ => simp [h1, h2, eqB] at hb
          | cons _ _ => simp [h1, eqB] at hb
        | cons f fs ihf =>
          intro off r b hr hox hoy hb
          simp only [flatFs] at hr
          split at hr
          · rename_i l1 r1 g1 g2
            cases hc : (Nat.beq f.offset off && Nat.beq (ssz P f.type) l1.length && !(f.name == "_")) with
            | false => simp [hc] at hr
            | true =>
              simp only [hc, cond_true, Option.some.injEq] at hr
              subst hr
              simp only [Bool.and_eq_true, Bool.not_eq_true'] at hc
              obtain ⟨⟨ho, hs⟩, hn⟩ := hc
              have ho := Nat.eq_of_beq_eq_true ho
              have hs := Nat.eq_of_beq_eq_true hs
              obtain ⟨b1, b2, e1, e2, e3⟩ := eqB_append hb
              rw [← hs] at e1 e2
              have lx := (eqB_lengths hb).1
              have ly := (eqB_lengths hb).2
              simp at lx ly
              obtain ⟨df, hdf⟩ := flat_und g1
              have hone : isAggT P f.type = false → ssz P f.type = 1 := fun ha => by rw [hs, flat_one g1 ha]; rfl
              obtain ⟨v1, p1, q1⟩ := run_part (w := w) (xs := xs) (off := off) hdf (by omega) hone
              obtain ⟨v2, p2, q2⟩ := run_part (w := w) (xs := ys) (off := off) hdf (by omega) hone
              have heq := ih g1 d (by omega) q1 q2 e1
              have hrest := ihf (off + ssz P f.type) r1 b2 g2 (by omega) (by omega) (by rw [← List.drop_drop, ← List.drop_drop]; exact e2)
              have hn' : f.name ≠ "_" := by simpa using hn
              simp only [Op.eqFields, hn', ne_eq, not_false_eq_true, if_true, Sem.run_bind, ho, p1, p2, heq, Result.andThen_ok]
              subst e3
              cases b1 with
              | false => simp
              | true => simpa using hrest
          · cases hr
      have hitm : ∀ (e : TypeId) (le : List TypeId), flat P D e = some le → ssz P e = le.length → P.cellsOf e = le.length → ∀ (n k : Nat) (b : Bool), k * le.length ≤ xs.length → k * le.length ≤ ys.length → eqB P ((List.replicate n le).flatten) (xs.drop (k * le.length)) (ys.drop (k * le.length)) = some b → (Op.eqItems d e (P.cellsOf e) ⟨xs⟩ ⟨ys⟩ (List.range' k n)).run P w = .ok b w := by
        intro e le g1 hs hce n
        induction n with
        | zero =>
          intro k b hkx hky hb
          simp only [List.replicate_zero, List.flatten_nil] at hb
          cases h1 : xs.drop (k * le.length) with
          | nil => cases h2 : ys.drop (k * le.length) with
            | nil => simp [h1, h2, eqB] at hb; subst hb; simp [Op.eqItems]
            | cons _ _ => simp [h1, h2, eqB] at hb
          | cons _ _ => simp [h1, eqB] at hb
        | succ n ihn =>
          intro k b hkx hky hb
          rw [List.replicate_succ, List.flatten_cons] at hb
          obtain ⟨b1, b2, e1, e2, e3⟩ := eqB_append hb
          have lx := (eqB_lengths hb).1
          have ly := (eqB_lengths hb).2
          simp at lx ly
          obtain ⟨df, hdf⟩ := flat_und g1
          have hone : isAggT P e = false → ssz P e = 1 := fun ha => by rw [hs, flat_one g1 ha]; rfl
          have hnn : le.length ≤ le.length + n * le.length := by omega
          obtain ⟨v1, p1, q1⟩ := run_part (w := w) (xs := xs) (off := k * le.length) hdf (by omega) hone
          obtain ⟨v2, p2, q2⟩ := run_part (w := w) (xs := ys) (off := k * le.length) hdf (by omega) hone
          rw [hs] at q1 q2
          have heq := ih g1 d (by omega) q1 q2 e1
          have hrest := ihn (k + 1) b2 (by rw [Nat.succ_mul]; omega) (by rw [Nat.succ_mul]; omega) (by rw [Nat.succ_mul, ← List.drop_drop, ← List.drop_drop]; exact e2)
          rw [List.range'_succ]
          rw [← hce] at p1 p2
          simp only [Op.eqItems, Sem.run_bind, p1, p2, heq, Result.andThen_ok]
          subst e3
          cases b1 with
          | false => simp
          | true => simpa using hrest
      unfold flat at h
      split at h
      · rename_i k hk; simp [isAggT, hk] at hA
      · rename_i hk; simp [isAggT, hk] at hA
      · rename_i hk; simp [isAggT, hk] at hA
      · rename_i fs hfs
        cases hh : P.stoodInHeld t with
        | true => simp [hh] at h
        | false =>
          simp only [hh, cond_false] at h
          rw [run_equalIn_struct w d t _ _ (by simp [Program.fieldsOf, hfs]) hh]
          simp only [Program.fieldsOf, hfs]
          exact hfld fs 0 l b h (by simp) (by simp) (by simpa using hb)
      · rename_i n e hne
        split at h
        · rename_i le g1
          cases hc : (Nat.beq (ssz P e) le.length && Nat.beq (P.cellsOf e) le.length) with
          | false => simp [hc] at h
          | true =>
            simp only [hc, cond_true, Option.some.injEq] at h
            simp only [Bool.and_eq_true] at hc
            have hc1 := Nat.eq_of_beq_eq_true hc.1
            have hc2 := Nat.eq_of_beq_eq_true hc.2
            obtain ⟨df, hdf⟩ := flat_und g1
            obtain ⟨i, hi⟩ := info_of_underlying hdf
            rw [run_equalIn_array w d _ _ hne hi, List.range_eq_range']
            exact hitm e le g1 hc1 hc2 n 0 b (by simp) (by simp) (by subst h; simpa using hb)
        · cases h
      · cases h

end Ide

/- The operations that touch no memory, and those that read it. -/
set_option linter.unusedVariables false
set_option linter.unusedSimpArgs false
namespace Ide
open Go Go.RowKit
variable [Pol]

/-- The machine's value, made without a change of the world, of an ideal one that goes on. -/
def PG (β : Emb) (w : World) (P : Program) (K : Value → Prop) (s : Sem Value) : Prop := ∃ v' v, s.run P w = .ok v' w ∧ VRel β.loc v v' ∧ K v

theorem PG.gives {β : Emb} {H : IHeap} {w : World} {P : Program} {K : Value → IHeap → Prop} {s : Sem Value} (S : Sim β H w) (h : PG β w P (fun v => K v H) s) : Gives β w K (s.run P w) := by
  obtain ⟨v', v, h1, h2, h3⟩ := h
  exact .same S h1 h2 h3

section
variable {P : Program} {β : Emb} {H : IHeap} {w : World}

theorem fieldOff_spec {t : TypeId} {f off : Nat} {ft : TypeId} (h : fieldOff P t f = some (off, ft)) : ∃ fs x i, P.underlying t = some (.struct fs) ∧ fs[f]? = some x ∧ x.offset = off ∧ x.type = ft ∧ P.info? ft = some i ∧ i.size ≠ 0 := by
  unfold fieldOff at h
  split at h
  · rename_i fs hu
    split at h
    · rename_i x hx
      cases hb : Nat.beq (ssz P x.type) 0 with
      | true => simp [hb] at h
      | false =>
        simp only [hb, cond_false, Option.some.injEq, Prod.mk.injEq] at h
        have hne : ssz P x.type ≠ 0 := fun e => by rw [e] at hb; simp at hb
        obtain ⟨i, hi⟩ := info_of_ssz hne
        obtain ⟨h1, rfl⟩ := h
        exact ⟨fs, x, i, hu, hx, h1, rfl, hi, by rwa [← ssz_of hi]⟩
    · cases h
  · cases h

theorem fieldAddr_sound {t : TypeId} {v v' : Value} {f : Nat} {K : Value → Prop} (hv : VRel β.loc v v') (h : fieldAddr P t v f K) : PG β w P K (Instr.fieldAt t v' f) := by
  unfold fieldAddr at h
  split at h
  · rename_i a off ft hf
    obtain ⟨i, o, rfl, hk⟩ := pcase_sound h
    obtain ⟨_, l, hl, rfl⟩ := hv.inv_ptr
    obtain ⟨fs, x, inf, hu, hx, rfl, rfl, hi, hne⟩ := fieldOff_spec hf
    refine ⟨.pointer (some ⟨l.block, l.base + (o + x.offset), none⟩), _, ?_, .ptr hl, hk⟩
    unfold Instr.fieldAt fieldPlace
    simp [run_und hu, hx, Instr.sureAddr, run_sz hi, hne, addr_add, Nat.add_assoc]
  · exact h.elim

theorem cellOf_sound {cs : List Value} {i : Nat} {K : Value → Prop} (h : cellOf cs i K) : ∃ v, cs[i]? = some v ∧ K v := by
  unfold cellOf at h
  split at h
  · exact ⟨_, ‹_›, h⟩
  · exact h.elim

theorem part_sound {t : TypeId} {cs cs' : List Value} {off : Nat} {K : Value → Prop} (hv : VsRel β.loc cs cs') (h : part P t cs off K) : PG β w P K (Go.part t ⟨cs'⟩ off) := by
  have many : ∀ {d : TypeDesc}, P.underlying t = some d → aggD d = true → cellsOf cs off (ssz P t) (fun vs => K (.agg ⟨vs⟩)) → PG β w P K (Go.part t ⟨cs'⟩ off) := by
    intro d hd ha ⟨hl, hk⟩
    obtain ⟨i, hi⟩ := info_of_underlying hd
    refine ⟨.agg ⟨(cs'.drop off).take (ssz P t)⟩, _, ?_, .agg ((hv.drop off).take _), hk⟩
    unfold Go.part
    simp only [Sem.run_bind, run_isAgg hd, ha, Result.andThen_ok, if_true, run_sz hi, Sem.run_pure]
    congr 2
    apply Array.ext'
    simp [ssz_of hi, List.extract_eq_take_drop]
  unfold part at h
  split at h
  · exact many ‹_› rfl h
  · exact many ‹_› rfl h
  · rename_i d hs ha hu
    obtain ⟨v, h1, h2⟩ := cellOf_sound h
    obtain ⟨v', g1, g2⟩ := hv.get h1
    have had : aggD d = false := by cases d <;> simp_all [aggD]
    refine ⟨v', v, ?_, g2, shaped_sound h2⟩
    unfold Go.part
    have : (⟨cs'⟩ : Array Value)[off]? = some v' := by simpa using g1
    simp [run_isAgg hu, had, this]
  · exact h.elim

theorem field_sound {t : TypeId} {v v' : Value} {f : Nat} {K : Value → Prop} (hv : VRel β.loc v v') (h : field P t v f K) : PG β w P K (Instr.field t v' f) := by
  unfold field at h
  split at h
  · rename_i cs off ft hf
    obtain ⟨cs', rfl, hcs⟩ := hv.inv_agg
    obtain ⟨fs, x, inf, hu, hx, rfl, rfl, hi, hne⟩ := fieldOff_spec hf
    obtain ⟨r', r, h1, h2, h3⟩ := part_sound (w := w) hcs h
    refine ⟨r', r, ?_, h2, h3⟩
    unfold Instr.field
    simp [run_und hu, hx, asAgg, h1]
  · exact h.elim

theorem bif_sound {b : Bool} {X : Prop} (h : bif b then X else False) : b = true ∧ X := by
  cases b
  · exact h.elim
  · exact ⟨rfl, h⟩

theorem info_of_ble {t : TypeId} (h : Nat.ble 1 (ssz P t) = true) : ∃ i, P.info? t = some i ∧ i.size = ssz P t ∧ 1 ≤ i.size := by
  have h' := Nat.le_of_ble_eq_true h
  obtain ⟨i, hi⟩ := info_of_ssz (P := P) (t := t) (by omega)
  exact ⟨i, hi, (ssz_of hi).symm, by rw [← ssz_of hi]; exact h'⟩

theorem indexAddr_sound {t : TypeId} {v v' i i' : Value} {K : Value → Prop} (hv : VRel β.loc v v') (hi : VRel β.loc i i') (h : indexAddr P t v i K) : PG β w P K (Instr.indexAt t v' i') := by
  unfold indexAddr at h
  split at h
  · rename_i e a n m k x hu
    obtain ⟨hb, h⟩ := bif_sound h
    obtain ⟨inf, hinf, hsz, _⟩ := info_of_ble hb
    obtain rfl := hi.inv_int
    obtain ⟨h0, h1, hc⟩ := h
    obtain ⟨b, o, q, rfl, hk⟩ := acase_sound hc
    rcases hv.inv_slice with ⟨h', _⟩ | ⟨_, _, _, _, hn0, _⟩ | ⟨id, off, q', l, o', c, ha, hl, rfl, hn, hm, _, ho, _⟩
    · cases h'
    · subst hn0; exact absurd h1 (by simp; omega)
    · cases ha
      have hc0 : c ≠ 0 := by omega
      have ho' : o' = l.base + o := ho.resolve_right hc0
      subst ho'
      refine ⟨.pointer (some ⟨l.block, l.base + (o + x.toNat * ssz P e), none⟩), _, ?_, .ptr hl, hk⟩
      unfold Instr.indexAt
      have h1' : x < (n : Int) := h1
      simp [asIntOf, run_und hu, h0, h1', run_sz hinf, addr_add, hsz, Nat.add_assoc]
  · rename_i n e a k x hu
    obtain ⟨hb, h⟩ := bif_sound h
    obtain ⟨inf, hinf, hsz, _⟩ := info_of_ble hb
    obtain rfl := hi.inv_int
    obtain ⟨h0, h1, hc⟩ := h
    obtain ⟨b, o, rfl, hk⟩ := pcase_sound hc
    obtain ⟨_, l, hl, rfl⟩ := hv.inv_ptr
    refine ⟨.pointer (some ⟨l.block, l.base + (o + x.toNat * ssz P e), none⟩), _, ?_, .ptr hl, hk⟩
    unfold Instr.indexAt
    simp [asIntOf, run_und hu, Instr.sureAddr, h0, h1, run_sz hinf, addr_add, hsz, Nat.add_assoc]
  · exact h.elim

theorem index_sound {t : TypeId} {v v' i i' : Value} {K : Value → Prop} (hv : VRel β.loc v v') (hi : VRel β.loc i i') (h : index P t v i K) : PG β w P K (Instr.index t v' i') := by
  unfold index at h
  split at h
  · rename_i s k x hu
    obtain rfl := hi.inv_int
    obtain rfl := hv.inv_str
    obtain ⟨h0, b, hb, hk⟩ := h
    refine ⟨.int .u8 b.toNat, _, ?_, .int _ _, hk⟩
    unfold Instr.index
    simp [asIntOf, run_und hu, h0, hb]
  · rename_i n e cs k x hu
    obtain ⟨hb, h0, h1, hp⟩ := bif_sound h
    obtain ⟨inf, hinf, hsz, _⟩ := info_of_ble hb
    obtain rfl := hi.inv_int
    obtain ⟨cs', rfl, hcs⟩ := hv.inv_agg
    obtain ⟨r', r, g1, g2, g3⟩ := part_sound (w := w) hcs hp
    refine ⟨r', r, ?_, g2, g3⟩
    unfold Instr.index
    simp [asIntOf, run_und hu, h0, h1, run_sz hinf, hsz, g1]
  · exact h.elim

theorem intBin_sound {op : BinOp} {k : IntKind} {t : TypeId} {a b : Int} {K : Value → Prop} (h : intBin op k a b K) : PG β w P K (Go.binOp op t (.int k a) (.int k b)) := by
  cases op <;> simp only [intBin] at h
  case add => exact ⟨_, _, by simp [Go.binOp, Op.intArith], .int _ _, h⟩
  case sub => exact ⟨_, _, by simp [Go.binOp, Op.intArith], .int _ _, h⟩
  case mul => exact ⟨_, _, by simp [Go.binOp, Op.intArith], .int _ _, h⟩
  case quo => exact ⟨_, _, by simp [Go.binOp, Op.intDiv, h.1], .int _ _, h.2⟩
  case rem => exact ⟨_, _, by simp [Go.binOp, Op.intDiv, h.1], .int _ _, h.2⟩
  case and => exact ⟨_, _, by simp only [Go.binOp, ne_eq, not_true_eq_false, if_false]; rfl, .int _ _, h⟩
  case or => exact ⟨_, _, by simp only [Go.binOp, ne_eq, not_true_eq_false, if_false]; rfl, .int _ _, h⟩
  case xor => exact ⟨_, _, by simp only [Go.binOp, ne_eq, not_true_eq_false, if_false]; rfl, .int _ _, h⟩
  case eql => exact ⟨_, _, by simp [Go.binOp, Op.intCmp], .bool _, h⟩
  case neq => exact ⟨_, _, by simp [Go.binOp, Op.intCmp], .bool _, h⟩
  case lss => exact ⟨_, _, by simp [Go.binOp, Op.intCmp], .bool _, h⟩
  case leq => exact ⟨_, _, by simp [Go.binOp, Op.intCmp], .bool _, h⟩
  case gtr => exact ⟨_, _, by simp [Go.binOp, Op.intCmp], .bool _, h⟩
  case geq => exact ⟨_, _, by simp [Go.binOp, Op.intCmp], .bool _, h⟩
  all_goals exact h.elim

section nils
variable (d : Nat) {t : TypeId}
theorem eqIn_sl {e : TypeId} (hu : P.underlying t = some (.slice e)) (b : Option Addr) (i j n m : Nat) : (Op.equalIn (d + 1) t (.slice none i j) (.slice b n m)).run P w = .ok b.isNone w := by
  simp [Op.equalIn, run_und hu]
theorem eqIn_sr {e : TypeId} (hu : P.underlying t = some (.slice e)) (b : Option Addr) (i j n m : Nat) : (Op.equalIn (d + 1) t (.slice b n m) (.slice none i j)).run P w = .ok b.isNone w := by
  cases b <;> simp [Op.equalIn, run_und hu]
theorem eqIn_pl {e : TypeId} (hu : P.underlying t = some (.pointer e)) (b : Option Addr) : (Op.equalIn (d + 1) t (.pointer none) (.pointer b)).run P w = .ok b.isNone w := by
  simp [Op.equalIn, run_und hu]
theorem eqIn_pr {e : TypeId} (hu : P.underlying t = some (.pointer e)) (b : Option Addr) : (Op.equalIn (d + 1) t (.pointer b) (.pointer none)).run P w = .ok b.isNone w := by
  cases b <;> simp [Op.equalIn, run_und hu]
theorem eqIn_ml {k e : TypeId} (hu : P.underlying t = some (.map k e)) (b : Option Nat) : (Op.equalIn (d + 1) t (.map none) (.map b)).run P w = .ok b.isNone w := by
  simp [Op.equalIn, run_und hu]
theorem eqIn_mr {k e : TypeId} (hu : P.underlying t = some (.map k e)) (b : Option Nat) : (Op.equalIn (d + 1) t (.map b) (.map none)).run P w = .ok b.isNone w := by
  cases b <;> simp [Op.equalIn, run_und hu]
end nils

theorem nilEq_sound {t : TypeId} {x y x' y' : Value} {K : Bool → Prop} (hx : VRel β.loc x x') (hy : VRel β.loc y y') (h : nilEq (P.underlying t) x y K) :
    ∃ b, (Op.equal t x' y').run P w = .ok b w ∧ K b := by
  unfold nilEq at h
  split at h
  · rename_i e _ _ b _ _ hu
    rcases hx.inv_slice with ⟨_, _, _, rfl⟩ | ⟨_, _, _, h', _⟩ | ⟨_, _, _, _, _, _, h', _⟩
    · unfold nilB at h
      rcases hy.inv_slice with ⟨rfl, _, _, rfl⟩ | ⟨id, off, q, rfl, _, rfl, rfl⟩ | ⟨id, off, q, l, o', c, rfl, hl, rfl, _⟩
      · exact ⟨_, eqIn_sl 9999 hu _ _ _ _ _, h⟩
      · exfalso
        have he := hy.nil_even
        have h2 : (Nat.ble 1 0 || Nat.beq (q % 2) 1) = true := (bif_sound h).1
        rw [he] at h2
        cases h2
      · exact ⟨_, eqIn_sl 9999 hu _ _ _ _ _, (bif_sound h).2⟩
    · cases h'
    · cases h'
  · rename_i e a _ _ _ _ hna hu
    rcases hy.inv_slice with ⟨_, _, _, rfl⟩ | ⟨_, _, _, h', _⟩ | ⟨_, _, _, _, _, _, h', _⟩
    · unfold nilB at h
      rcases hx.inv_slice with ⟨rfl, _, _, rfl⟩ | ⟨id, off, q, rfl, _, rfl, rfl⟩ | ⟨id, off, q, l, o', c, rfl, hl, rfl, _⟩
      · exact ⟨_, eqIn_sr 9999 hu _ _ _ _ _, h⟩
      · exfalso
        have he := hx.nil_even
        have h2 : (Nat.ble 1 0 || Nat.beq (q % 2) 1) = true := (bif_sound h).1
        rw [he] at h2
        cases h2
      · exact ⟨_, eqIn_sr 9999 hu _ _ _ _ _, (bif_sound h).2⟩
    · cases h'
    · cases h'
  · rename_i e b hu
    cases hx
    cases hy <;> exact ⟨_, eqIn_pl 9999 hu _, h⟩
  · rename_i e b _ hu
    cases hy
    cases hx <;> exact ⟨_, eqIn_pr 9999 hu _, h⟩
  · rename_i e _ b hu
    cases hx
    cases hy <;> exact ⟨_, eqIn_ml 9999 hu _, h⟩
  · rename_i e _ b _ hu
    cases hy
    cases hx <;> exact ⟨_, eqIn_mr 9999 hu _, h⟩
  · exact h.elim

theorem eqAgg_sound {t : TypeId} {xs ys xs' ys' : List Value} {K : Bool → Prop} (hx : VsRel β.loc xs xs') (hy : VsRel β.loc ys ys') (h : eqAgg P t xs ys K) :
    P.eqGuardType P.depth t = false ∧ ∃ b, (Op.equal t (.agg ⟨xs'⟩) (.agg ⟨ys'⟩)).run P w = .ok b w ∧ K b := by
  unfold eqAgg at h
  split at h
  · rename_i l hl
    cases hg : P.eqGuardType P.depth t with
    | true => simp [hg] at h
    | false =>
     cases hA : isAggT P t with
     | false => simp [hA] at h
     | true =>
      simp only [hg, hA, Bool.not_true, Bool.or_false, cond_false] at h
      split at h
      · rename_i b hb
        refine ⟨rfl, b, ?_, h⟩
        have gr : ∀ {l : List TypeId} {xs ys : List Value} {b : Bool}, eqB P l xs ys = some b → ground.groundL xs = true ∧ ground.groundL ys = true := by
          intro l
          induction l with
          | nil => intro xs ys b h; cases xs <;> cases ys <;> simp [eqB, ground.groundL] at h ⊢
          | cons t l ih =>
            intro xs ys b h
            cases xs with
            | nil => simp [eqB] at h
            | cons x xs =>
              cases ys with
              | nil => simp [eqB] at h
              | cons y ys =>
                simp only [eqB] at h
                split at h
                · rename_i c1 c2 h1 h2
                  have := ih h2
                  simp only [ground.groundL, Bool.and_eq_true, this.1, this.2, and_true]
                  unfold eq1 at h1
                  split at h1 <;> simp [ground] at h1 ⊢
                · cases h
        have hgr := gr hb
        rw [hx.eq_of_ground hgr.1, hy.eq_of_ground hgr.2]
        exact equalIn_flat 10 hl 10000 (by omega) (by simp [IsV, hA]) (by simp [IsV, hA]) hb
      · exact h.elim
  · exact h.elim

def Unguarded (a b : Value) : Prop :=
  match a, b with
  | .agg _, .agg _ => False
  | .nilIface, .nilIface => False
  | _, _ => True

theorem eqGuard_plain {op : BinOp} {t : TypeId} {x y : Operand} {a b : Value} (h : Unguarded a b) : (eqGuard op t x y a b).run P w = .ok () w := by
  unfold eqGuard
  unfold Unguarded at h
  cases op <;> simp <;> (split <;> simp_all)

theorem strBin_sound {op : BinOp} {t : TypeId} {a b : ByteArray} {K : Value → Prop} (h : strBin op a b K) : PG β w P K (Go.binOp op t (.string a) (.string b)) := by
  cases op <;> simp only [strBin] at h
  case eql => exact ⟨_, _, by simp [Go.binOp, Op.stringOp], .bool _, h⟩
  case neq => exact ⟨_, _, by simp [Go.binOp, Op.stringOp], .bool _, h⟩
  all_goals exact h.elim

theorem binOp_sound {op : BinOp} {t : TypeId} {ox oy : Operand} {x y x' y' : Value} {K : Value → Prop} (hx : VRel β.loc x x') (hy : VRel β.loc y y') (h : binOp P op t x y K) :
    PG β w P K (do eqGuard op t ox oy x' y'; Go.binOp op t x' y') := by
  have plain : Unguarded x' y' → PG β w P K (Go.binOp op t x' y') → PG β w P K (do eqGuard op t ox oy x' y'; Go.binOp op t x' y') := by
    rintro hp ⟨v', v, h1, h2, h3⟩
    exact ⟨v', v, by simp [eqGuard_plain hp, h1], h2, h3⟩
  unfold binOp at h
  split at h
  · rename_i k a k' b
    obtain rfl := hx.inv_int
    obtain rfl := hy.inv_int
    refine plain trivial ?_
    cases op <;> simp only at h
    case shl => exact ⟨_, _, by simp [Go.binOp, Op.shift, Int.not_lt.2 h.1], .int _ _, h.2⟩
    case shr => exact ⟨_, _, by simp [Go.binOp, Op.shift, Int.not_lt.2 h.1], .int _ _, h.2⟩
    all_goals (obtain ⟨rfl, h⟩ := h; exact intBin_sound h)
  · obtain rfl := hx.inv_str
    obtain rfl := hy.inv_str
    exact plain trivial (strBin_sound h)
  · rename_i a b
    obtain rfl := hx.inv_bool
    obtain rfl := hy.inv_bool
    refine plain trivial ?_
    split at h
    · split at h
      · exact ⟨_, _, by simp only [Go.binOp, Sem.run_bind]; rw [show (Op.equal t (.bool a) (.bool b)).run P w = .ok (a == b) w from run_equalIn_bool' w 9999 t a b ‹_›]; rfl, .bool _, h⟩
      · exact h.elim
    · split at h
      · exact ⟨_, _, by simp only [Go.binOp, Sem.run_bind]; rw [show (Op.equal t (.bool a) (.bool b)).run P w = .ok (a == b) w from run_equalIn_bool' w 9999 t a b ‹_›]; rfl, .bool _, h⟩
      · exact h.elim
    · exact h.elim
  · rename_i xs ys
    obtain ⟨xs', rfl, hxs⟩ := hx.inv_agg
    obtain ⟨ys', rfl, hys⟩ := hy.inv_agg
    split at h
    · obtain ⟨hg, b, hb, hk⟩ := eqAgg_sound (w := w) hxs hys h
      exact ⟨_, _, by simp only [Sem.run_bind, run_eqGuard_agg w _ _ _ _ _ _ hg, Result.andThen_ok, Go.binOp, hb, Sem.run_pure], .bool _, hk⟩
    · obtain ⟨hg, b, hb, hk⟩ := eqAgg_sound (w := w) hxs hys h
      exact ⟨_, _, by simp only [Sem.run_bind, run_eqGuard_agg w _ _ _ _ _ _ hg, Result.andThen_ok, Go.binOp, hb, Sem.run_pure], .bool _, hk⟩
    · exact h.elim
  · have hp : ∀ {K : Bool → Prop}, nilEq (P.underlying t) x y K → Unguarded x' y' := by
      intro K hn
      unfold nilEq at hn
      split at hn <;> first | exact hn.elim | (cases hx <;> cases hy <;> trivial)
    have hsh : ∀ {K : Bool → Prop}, nilEq (P.underlying t) x y K → Go.binOp .eql t x' y' = (do pure (.bool (← Op.equal t x' y'))) ∧ Go.binOp .neq t x' y' = (do pure (.bool (!(← Op.equal t x' y')))) := by
      intro K hn
      unfold nilEq at hn
      split at hn <;> first | exact hn.elim | (cases hx <;> cases hy <;> exact ⟨rfl, rfl⟩)
    split at h
    · obtain ⟨b, hb, hk⟩ := nilEq_sound (w := w) hx hy h
      exact plain (hp h) ⟨_, _, by rw [(hsh h).1]; simp only [Sem.run_bind, hb, Result.andThen_ok, Sem.run_pure], .bool _, hk⟩
    · obtain ⟨b, hb, hk⟩ := nilEq_sound (w := w) hx hy h
      exact plain (hp h) ⟨_, _, by rw [(hsh h).2]; simp only [Sem.run_bind, hb, Result.andThen_ok, Sem.run_pure], .bool _, hk⟩
    · exact h.elim

theorem unOp_sound {op : UnOp} {x x' : Value} {K : Value → Prop} (hx : VRel β.loc x x') (h : unOp op x K) : PG β w P K (Op.unary op x') := by
  unfold unOp at h
  split at h
  · obtain rfl := hx.inv_bool
    exact ⟨_, _, by simp [Op.unary], .bool _, h⟩
  · obtain rfl := hx.inv_int
    exact ⟨_, _, by simp [Op.unary, Op.intArith], .int _ _, h⟩
  · exact h.elim

theorem convert_sound {s d : TypeId} {x x' : Value} {K : Value → Prop} (hx : VRel β.loc x x') (h : convert P s d x K) : PG β w P K (Go.convert s d x') := by
  unfold convert at h
  split at h
  · rename_i k0 k j n hs hd
    obtain rfl := hx.inv_int
    exact ⟨_, _, by simp [Go.convert, run_und hs, run_und hd, Conv.intToInt], .int _ _, h⟩
  · rename_i y hs hd
    obtain rfl := hx.inv_str
    exact ⟨_, _, by simp [Go.convert, run_und hs, run_und hd], .str _, h⟩
  · exact h.elim

end
end Ide
