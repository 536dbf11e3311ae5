/- Maps, lengths, copies; and the other small operations. -/
import Derived.Test.YtjjnlbceoajllaaGreatIdeJ
set_option linter.unusedVariables false
set_option linter.unusedSimpArgs false
namespace Ide
open Go Go.RowKit

section
variable {P : Program} {β : Emb} {H : IHeap} {w : World}

theorem map_obj (S : Sim β H w) {r : Nat} {l : Loc} {es : List MapEntry} {clock : Nat} (hl : β.loc r = some l) (hr : H[r]? = some (.map es clock)) :
    ∃ es' : Array MapEntry, w.heap[l.block]? = some (.map es' clock) ∧ EsRel β.loc es es'.toList ∧ (Go.getObj l.block).run P w = .ok (.map es' clock) w := by
  obtain ⟨_, es', h1, h2⟩ := S.obj r l _ hl hr
  exact ⟨es', h1, h2, run_getObj h1 trivial⟩

theorem mapLook_sound (S : Sim β H w) {m : Option Nat} {m' : Value} {K : List MapEntry → Prop} (hm : VRel β.loc (.map m) m') (h : mapLook H m K) :
    ∃ (es : List MapEntry) (es' : Array MapEntry), EsRel β.loc es es'.toList ∧ K es ∧ ((m = none ∧ m' = .map none ∧ es = [] ∧ es' = #[]) ∨ ∃ b clock, m' = .map (some b) ∧ (Go.getObj b).run P w = .ok (.map es' clock) w) := by
  unfold mapLook at h
  rcases hm.inv_map with ⟨rfl, rfl⟩ | ⟨id, l, rfl, hl, rfl⟩
  · exact ⟨[], #[], trivial, h, .inl ⟨rfl, rfl, rfl, rfl⟩⟩
  · obtain ⟨es, clock, h1, h2⟩ := h
    obtain ⟨es', g1, g2, g3⟩ := map_obj (P := P) S hl h1
    exact ⟨es, es', g2, h2, .inr ⟨l.block, clock, rfl, g3⟩⟩

theorem keyOk_ground {t : TypeId} {k : Value} (h : keyOk P t k = true) : ground k = true := by
  unfold keyOk at h
  simp only [Bool.and_eq_true] at h
  exact h.2

theorem lookup_pg (S : Sim β H w) {t : TypeId} {m m' k k' : Value} {ok : Bool} {K : Value → Prop} (hm : VRel β.loc m m') (hk : VRel β.loc k k') (h : lookup P t H m k ok K) : PG β w P K (Instr.lookup t m' k' ok) := by
  unfold lookup at h
  split at h
  · rename_i kt et r hu
    split at h
    · rename_i z hz
      obtain ⟨hko, h⟩ := h
      obtain rfl := hk.eq_of_ground (keyOk_ground hko)
      obtain ⟨es, es', h1, h2, h3⟩ := mapLook_sound (P := P) S hm h
      obtain ⟨i, hi, hzz, hg⟩ := zeroV_spec hz
      have fin : ∀ (o : Option (Nat × Value)) (v v' : Value) (b : Bool), (Instr.findKey kt k' es'.toList).run P w = .ok o w → VRel β.loc v v' → ((o = none ∧ b = false ∧ i.zero = some v') ∨ (∃ j, o = some (j, v') ∧ b = true)) →
          K (okV ok v b) → PG β w P K (Instr.lookup t m' k' ok) := by
        intro o v v' b hf hv ho hK
        refine ⟨if ok then .tuple #[v', .bool b] else v', _, ?_, ?_, hK⟩
        · unfold Instr.lookup
          rcases h3 with ⟨_, rfl, _, rfl⟩ | ⟨b, clock, rfl, hb⟩
          · simp only [Sem.run_bind, run_und hu, Result.andThen_ok, Sem.run_pure]
            rw [checkKey_ok _ hko]
            simp only [Result.andThen_ok, hf]
            rcases ho with ⟨rfl, rfl, hzv⟩ | ⟨j, rfl, rfl⟩
            · simp only [Sem.run_bind, run_zero hi hzv, Result.andThen_ok, Sem.run_pure]
            · simp only [Sem.run_bind, Result.andThen_ok, Sem.run_pure]
          · simp only [Sem.run_bind, run_und hu, Result.andThen_ok, Sem.run_pure, hb]
            rw [checkKey_ok _ hko]
            simp only [Result.andThen_ok, hf]
            rcases ho with ⟨rfl, rfl, hzv⟩ | ⟨j, rfl, rfl⟩
            · simp only [Sem.run_bind, run_zero hi hzv, Result.andThen_ok, Sem.run_pure]
            · simp only [Sem.run_bind, Result.andThen_ok, Sem.run_pure]
        · cases ok
          · exact hv
          · exact .tuple (.cons hv (.cons (.bool _) .nil))
      unfold lookE at h2
      split at h2
      · rename_i e he
        obtain ⟨o, ho, hoe⟩ := findE_found he
        cases o with
        | none => cases hoe
        | some p =>
          obtain ⟨j, x⟩ := p
          simp only [Option.map_some, Option.some.injEq] at hoe
          subst hoe
          obtain ⟨r', q1, y, q2, q3⟩ := findKey_sound (w := w) hko h1 ho
          obtain ⟨y', g1, g2, g3, g4, g5⟩ := h1.get ho.get
          rw [q2] at g1
          cases g1
          exact fin _ x.val y.val true q1 g5 (.inr ⟨j, q3, rfl⟩) (shaped_sound (K := fun v => K (okV ok v true)) h2)
      · rename_i he
        obtain ⟨o, ho, hoe⟩ := findE_found he
        cases o with
        | some p => cases hoe
        | none =>
          obtain ⟨r', q1, q2⟩ := findKey_sound (w := w) hko h1 ho
          exact fin _ z z false q1 (VRel.of_ground _ _ hg) (.inl ⟨q2, rfl, hzz⟩) h2
      · exact h2.elim
    · exact h.elim
  · exact h.elim

theorem sameBits_ground : ∀ (n : Nat) (v : Value), True := fun _ _ => trivial

/-- The key that stays: two keys that are equal and ground are the same bits. -/
theorem run_keyThatStays {t : TypeId} {x y : Value} (h : keq P t x y = some true) : ∃ k, (Instr.keyThatStays y x).run P w = .ok k w ∧ k = x := by
  obtain ⟨l, xs, ys, hl, hx, hy, hb⟩ := keq_isV h
  have leaf : ∀ {d : Option TypeDesc} {a b : Value} (n : Nat), eq1 d a b = some true → Instr.sameBits n b a = true := by
    intro d a b n h
    unfold eq1 at h
    split at h
    · rename_i k0 k a j c
      cases hk : kbeq k j with
      | false => simp [hk] at h
      | true =>
        obtain rfl := kbeq_eq hk
        simp only [hk, cond_true, Option.some.injEq, beq_iff_eq] at h
        subst h
        cases n <;> simp [Instr.sameBits]
    · simp only [Option.some.injEq, beq_iff_eq] at h
      subst h
      cases n <;> simp [Instr.sameBits]
    · simp only [Option.some.injEq, beq_iff_eq] at h
      cases n <;> simp [Instr.sameBits, beq_toListBytes, h]
    · cases h
  have list : ∀ (n : Nat) {l : List TypeId} {xs ys : List Value}, eqB P l xs ys = some true → (ys.zip xs).all (fun (x, y) => Instr.sameBits n x y) = true := by
    intro n l
    induction l with
    | nil => intro xs ys h; cases xs <;> cases ys <;> simp [eqB] at h ⊢
    | cons t l ih =>
      intro xs ys h
      cases xs with
      | nil => simp [eqB] at h
      | cons x xs =>
        cases ys with
        | nil => simp [eqB] at h
        | cons y ys =>
          simp only [eqB] at h
          split at h
          · rename_i c1 c2 h1 h2
            simp only [Option.some.injEq, Bool.and_eq_true] at h
            obtain ⟨rfl, rfl⟩ := h
            simp only [List.zip_cons_cons, List.all_cons, Bool.and_eq_true]
            exact ⟨leaf n h1, ih h2⟩
          · cases h
  have hs : Instr.sameBits 10000 y x = true := by
    cases hA : isAggT P t with
    | true =>
      simp only [IsV, hA] at hx hy
      subst hx; subst hy
      have hlen := eqB_lengths hb
      show Instr.sameBits (9999 + 1) _ _ = true
      unfold Instr.sameBits
      simp only [Bool.and_eq_true, beq_iff_eq, List.size_toArray]
      exact ⟨by omega, list 9999 hb⟩
    | false =>
      obtain rfl := flat_one hl hA
      simp only [IsV, hA] at hx hy
      subst hx; subst hy
      simp only [eqB] at hb
      split at hb
      · rename_i c1 c2 h1 h2
        simp only [Option.some.injEq, Bool.and_eq_true] at hb h2
        obtain ⟨rfl, _⟩ := hb
        exact leaf 10000 h1
      · cases hb
  refine ⟨x, ?_, rfl⟩
  unfold Instr.keyThatStays
  rw [if_pos hs]
  rfl

theorem mapUpdate_sound (S : Sim β H w) {t : TypeId} {m m' k k' v v' : Value} {K : IHeap → Prop} (hm : VRel β.loc m m') (hk : VRel β.loc k k') (hv : VRel β.loc v v') (h : mapUpdate P t H m k v K) :
    ∃ w' H', (Instr.mapUpdate t m' k' v').run P w = .ok () w' ∧ Step β w β w' ∧ Sim β H' w' ∧ K H' := by
  unfold mapUpdate at h
  split at h
  · rename_i kt et r hu
    obtain ⟨hko, es, clock, hr, h⟩ := h
    obtain rfl := hk.eq_of_ground (keyOk_ground hko)
    rcases hm.inv_map with ⟨h', _⟩ | ⟨id, l, h', hl, rfl⟩
    · cases h'
    · cases h'
      obtain ⟨es', g1, g2, g3⟩ := map_obj (P := P) S hl hr
      have hge := ((S.obj r l _ hl hr).block_lt rfl).2
      unfold putE at h
      split at h
      · rename_i e he
        obtain ⟨o, ho, hoe⟩ := findE_found he
        cases o with
        | none => cases hoe
        | some p =>
          obtain ⟨j, x⟩ := p
          simp only [Option.map_some, Option.some.injEq] at hoe
          subst hoe
          obtain ⟨r', q1, y, q2, q3⟩ := findKey_sound (w := w) hko g2 ho
          obtain ⟨y', p1, p2, p3, p4, p5⟩ := g2.get ho.get
          rw [q2] at p1
          cases p1
          have hkx : keq P kt k' x.key = some true := by
            have : ∀ {es : List MapEntry} {i : Nat} {x : MapEntry}, Found P kt k' es (some (i, x)) → keq P kt k' x.key = some true := by
              intro es
              induction es with
              | nil => intro i x h; cases h
              | cons e es ih => intro i x h; cases h with | here h => exact h | there _ r => exact ih r
            exact this ho
          rw [← p2] at hkx
          obtain ⟨kk, s1, hkk⟩ := run_keyThatStays (w := w) hkx
          rw [hkk] at s1
          have hn : es'.toList[j]? = some y := q2
          obtain ⟨St, Sm⟩ := S.setObj (x' := .map (es'.modify j fun e => { e with key := k', val := v' }) clock) hl hr rfl g1 (o' := .map (setVal P kt k' v es) clock) (fun W hW => ⟨hge, _, hW, by
            rw [setVal_found ho]
            have : (es'.modify j fun e => { e with key := k', val := v' }).toList = es'.toList.set j { y with key := k', val := v' } := by
              apply List.ext_getElem?
              intro a
              rw [List.getElem?_set]
              have hjl := get_lt hn
              by_cases e : j = a
              · subst e
                rw [if_pos rfl, if_pos hjl]
                simp only [Array.getElem?_toList, Array.getElem?_modify, if_pos]
                rw [Array.getElem?_toList] at hn
                rw [hn]
                rfl
              · rw [if_neg e]
                simp only [Array.getElem?_toList, Array.getElem?_modify, if_neg e]
            rw [this]
            exact g2.set j rfl (keyOk_ground hko) p4 hv⟩)
          refine ⟨_, _, ?_, St, Sm, h⟩
          unfold Instr.mapUpdate
          simp only [Sem.run_bind, run_und hu, Result.andThen_ok, g3, checkKey_ok _ hko, q1, q3]
          have hk2 : ((es'[j]?).map (·.key)).getD k' = y.key := by
            rw [Array.getElem?_toList] at hn
            rw [hn]
            rfl
          rw [hk2, s1]
          simp only [Result.andThen_ok]
          exact run_setObj g1 trivial
      · rename_i he
        obtain ⟨o, ho, hoe⟩ := findE_found he
        cases o with
        | some p => cases hoe
        | none =>
          obtain ⟨r', q1, q2⟩ := findKey_sound (w := w) hko g2 ho
          obtain ⟨St, Sm⟩ := S.setObj (x' := .map (es'.push { key := k', val := v', born := clock }) (clock + 1)) hl hr rfl g1 (o' := .map (es ++ [{ key := k', val := v, born := clock }]) (clock + 1)) (fun W hW => ⟨hge, _, hW, by
            rw [Array.toList_push]
            exact g2.snoc rfl (keyOk_ground hko) rfl hv⟩)
          refine ⟨_, _, ?_, St, Sm, h⟩
          unfold Instr.mapUpdate
          simp only [Sem.run_bind, run_und hu, Result.andThen_ok, g3, checkKey_ok _ hko, q1, q2]
          exact run_setObj g1 trivial
      · exact h.elim
  · exact h.elim

theorem mapDelete_sound (S : Sim β H w) {t u : TypeId} {m m' k k' : Value} {ts : List TypeId} {K : IHeap → Prop} (hm : VRel β.loc m m') (hk : VRel β.loc k k') (h : mapDelete P t H m k K) :
    ∃ w' H', (Builtin.delete_ ⟨t :: ts⟩ u #[m', k']).run P w = .ok (.tuple #[]) w' ∧ Step β w β w' ∧ Sim β H' w' ∧ K H' := by
  unfold mapDelete at h
  split at h
  · rename_i kt et r hu
    obtain ⟨hko, es, clock, hr, hf, h⟩ := h
    obtain rfl := hk.eq_of_ground (keyOk_ground hko)
    rcases hm.inv_map with ⟨h', _⟩ | ⟨id, l, h', hl, rfl⟩
    · cases h'
    · cases h'
      obtain ⟨es', g1, g2, g3⟩ := map_obj (P := P) S hl hr
      have hge := ((S.obj r l _ hl hr).block_lt rfl).2
      obtain ⟨e, he⟩ := Option.isSome_iff_exists.1 hf
      obtain ⟨o, ho, hoe⟩ := findE_found he
      obtain ⟨r', q1, q2⟩ := findKey_sound (w := w) hko g2 ho
      have hres : ∀ (x : Array MapEntry), EsRel β.loc (eraseE P kt k' es) x.toList → (Builtin.delete_ ⟨t :: ts⟩ u #[.map (some l.block), k']).run P w = .ok (.tuple #[]) { w with heap := w.heap.setIfInBounds l.block (.map x clock) } →
          ∃ w' H', (Builtin.delete_ ⟨t :: ts⟩ u #[.map (some l.block), k']).run P w = .ok (.tuple #[]) w' ∧ Step β w β w' ∧ Sim β H' w' ∧ K H' := by
        intro x hx hrun
        obtain ⟨St, Sm⟩ := S.setObj (x' := .map x clock) hl hr rfl g1 (o' := .map (eraseE P kt k' es) clock) (fun W hW => ⟨hge, _, hW, hx⟩)
        exact ⟨_, _, hrun, St, Sm, h⟩
      cases o with
      | none =>
        have q2 : r' = none := q2
        refine hres es' (by rw [eraseE_found ho]; exact g2) ?_
        unfold Builtin.delete_
        simp only [List.getElem?_toArray, List.getElem?_cons_zero, List.getElem?_cons_succ, Sem.run_bind, run_und hu, Result.andThen_ok, g3, checkKey_ok _ hko, q1, q2, run_setObj g1 trivial, Sem.run_pure]
      | some p =>
        obtain ⟨j, x⟩ := p
        obtain ⟨y, q2, q3⟩ := q2
        refine hres (es'.eraseIdxIfInBounds j) (by
          rw [eraseE_found ho]
          have hjl : j < es'.size := by have := get_lt q2; simpa using this
          simp only [Array.eraseIdxIfInBounds, hjl, dif_pos, Array.toList_eraseIdx]
          exact g2.eraseIdx j) ?_
        unfold Builtin.delete_
        simp only [List.getElem?_toArray, List.getElem?_cons_zero, List.getElem?_cons_succ, Sem.run_bind, run_und hu, Result.andThen_ok, g3, checkKey_ok _ hko, q1, q3, run_setObj g1 trivial, Sem.run_pure]
  · rename_i kt et hu
    obtain ⟨hko, h⟩ := h
    obtain rfl := hk.eq_of_ground (keyOk_ground hko)
    rcases hm.inv_map with ⟨_, rfl⟩ | ⟨id, l, h', hl, rfl⟩
    · refine ⟨w, H, ?_, Step.refl _ _, S, h⟩
      unfold Builtin.delete_
      simp only [List.getElem?_toArray, List.getElem?_cons_zero, List.getElem?_cons_succ, Sem.run_bind, run_und hu, Result.andThen_ok, checkKey_ok _ hko, Sem.run_pure]
    · cases h'
  · exact h.elim

theorem mapEntry_gives (S : Sim β H w) {t : TypeId} {m m' k k' : Value} {K : Value → IHeap → Prop} (hm : VRel β.loc m m') (hk : VRel β.loc k k') (h : mapEntry P t H m k K) : Gives β w K ((Instr.mapEntry t m' k').run P w) := by
  unfold mapEntry at h
  split at h
  · rename_i kt et r hu
    split at h
    · rename_i z hz
      obtain ⟨hko, es, clock, hr, h⟩ := h
      obtain ⟨i, hi, hzz, hg⟩ := zeroV_spec hz
      obtain rfl := hk.eq_of_ground (keyOk_ground hko)
      rcases hm.inv_map with ⟨h', _⟩ | ⟨id, l, h', hl, rfl⟩
      · cases h'
      · cases h'
        obtain ⟨es', g1, g2, g3⟩ := map_obj (P := P) S hl hr
        have hge := ((S.obj r l _ hl hr).block_lt rfl).2
        split at h
        · exact h.elim
        · rename_i e he
          obtain ⟨o, ho, hoe⟩ := findE_found he
          cases o with
          | none => cases hoe
          | some p =>
            obtain ⟨j, x⟩ := p
            simp only [Option.map_some, Option.some.injEq] at hoe
            subst hoe
            obtain ⟨r', q1, y, q2, q3⟩ := findKey_sound (w := w) hko g2 ho
            obtain ⟨y', p1, p2, p3, p4, p5⟩ := g2.get ho.get
            rw [q2] at p1
            cases p1
            have hkx : keq P kt k' x.key = some true := by
              have : ∀ {es : List MapEntry} {i : Nat} {x : MapEntry}, Found P kt k' es (some (i, x)) → keq P kt k' x.key = some true := by
                intro es
                induction es with
                | nil => intro i x h; cases h
                | cons e es ih => intro i x h; cases h with | here h => exact h | there _ r => exact ih r
              exact this ho
            rw [← p2] at hkx
            obtain ⟨kk, s1, hkk⟩ := run_keyThatStays (w := w) hkx
            rw [hkk] at s1
            have hn : es'.toList[j]? = some y := q2
            obtain ⟨St, Sm⟩ := S.setObj (x' := .map (es'.modify j fun e => { e with key := k' }) clock) hl hr rfl g1 (o' := .map (setVal P kt k' x.val es) clock) (fun W hW => ⟨hge, _, hW, by
              rw [setVal_found ho]
              have : (es'.modify j fun e => { e with key := k' }).toList = es'.toList.set j { y with key := k' } := by
                apply List.ext_getElem?
                intro a
                rw [List.getElem?_set]
                have hjl := get_lt hn
                by_cases e : j = a
                · subst e
                  rw [if_pos rfl, if_pos hjl]
                  simp only [Array.getElem?_toList, Array.getElem?_modify, if_pos]
                  rw [Array.getElem?_toList] at hn
                  rw [hn]
                  rfl
                · rw [if_neg e]
                  simp only [Array.getElem?_toList, Array.getElem?_modify, if_neg e]
              rw [this]
              exact g2.set j rfl (keyOk_ground hko) p4 p5⟩)
            refine ⟨.tuple #[y.val, goInt y.born], _, ?_, β, _, .tuple ⟨[x.val, .int .i64 x.born]⟩, St, Sm, ?_, shaped_sound (K := fun v => K (.tuple ⟨[v, .int .i64 x.born]⟩) _) h⟩
            · unfold Instr.mapEntry
              simp only [Sem.run_bind, run_und hu, Result.andThen_ok, g3, checkKey_ok _ hko, q1, q3]
              rw [Array.getElem?_toList] at hn
              simp only [hn, Option.map_some, Option.getD_some, s1, Result.andThen_ok, run_setObj g1 trivial, Sem.run_pure]
            · rw [p4]
              exact .tuple (.cons p5 (.cons (.int _ _) .nil))
        · rename_i he
          obtain ⟨o, ho, hoe⟩ := findE_found he
          cases o with
          | some p => cases hoe
          | none =>
            obtain ⟨r', q1, q2⟩ := findKey_sound (w := w) hko g2 ho
            obtain ⟨St, Sm⟩ := S.setObj (x' := .map (es'.push { key := k', val := z, born := clock }) (clock + 1)) hl hr rfl g1 (o' := .map (es ++ [{ key := k', val := z, born := clock }]) (clock + 1)) (fun W hW => ⟨hge, _, hW, by
              rw [Array.toList_push]
              exact g2.snoc rfl (keyOk_ground hko) rfl (VRel.of_ground _ _ hg)⟩)
            refine ⟨.tuple #[z, goInt clock], _, ?_, β, _, .tuple ⟨[z, .int .i64 clock]⟩, St, Sm, .tuple (.cons (VRel.of_ground _ _ hg) (.cons (.int _ _) .nil)), h⟩
            have q2 : r' = none := q2
            unfold Instr.mapEntry
            simp only [Sem.run_bind, run_und hu, Result.andThen_ok, g3, checkKey_ok _ hko, q1, q2, run_zero hi hzz, run_setObj g1 trivial, Sem.run_pure]
    · exact h.elim
  · exact h.elim

theorem entryStore_sound (S : Sim β H w) {t : TypeId} {m m' s s' v v' : Value} {K : IHeap → Prop} (hm : VRel β.loc m m') (hs : VRel β.loc s s') (hv : VRel β.loc v v') (h : entryStore H m s v K) :
    ∃ w' H', (Instr.entryStore t m' s' v').run P w = .ok () w' ∧ Step β w β w' ∧ Sim β H' w' ∧ K H' := by
  unfold entryStore at h
  split at h
  · rename_i r k b
    obtain rfl := hs.inv_int
    obtain ⟨es, clock, hr, es2, hes, h⟩ := h
    rcases hm.inv_map with ⟨h', _⟩ | ⟨id, l, h', hl, rfl⟩
    · cases h'
    · cases h'
      obtain ⟨es', g1, g2, g3⟩ := map_obj (P := P) S hl hr
      have hge := ((S.obj r l _ hl hr).block_lt rfl).2
      have key : ∀ {es es2 : List MapEntry} {xs : List MapEntry}, EsRel β.loc es xs → setBorn b v es = some es2 → ∃ j y, xs.findIdx? (fun e => (e.born : Int) == b) = some j ∧ xs[j]? = some y ∧ EsRel β.loc es2 (xs.set j { y with val := v' }) := by
        intro es
        induction es with
        | nil => intro es2 xs _ h; simp [setBorn] at h
        | cons e es ih =>
          intro es2 xs hx h
          cases xs with
          | nil => exact hx.elim
          | cons x xs =>
            obtain ⟨h1, h2, h3, h4, h5⟩ := hx
            simp only [setBorn] at h
            cases hb : ((e.born : Int) == b) with
            | true =>
              simp only [hb, cond_true, Option.some.injEq] at h
              subst h
              refine ⟨0, x, ?_, by simp, ?_⟩
              · simp [List.findIdx?_cons, h3, hb]
              · exact ⟨h1, h2, h3, hv, h5⟩
            | false =>
              simp only [hb, cond_false, Option.map_eq_some_iff] at h
              obtain ⟨es3, h6, rfl⟩ := h
              obtain ⟨j, y, q1, q2, q3⟩ := ih h5 h6
              refine ⟨j + 1, y, ?_, by simpa using q2, ?_⟩
              · simp [List.findIdx?_cons, h3, hb, q1]
              · exact ⟨h1, h2, h3, h4, q3⟩
      obtain ⟨j, y, q1, q2, q3⟩ := key g2 hes
      obtain ⟨St, Sm⟩ := S.setObj (x' := .map (es'.modify j fun e => { e with val := v' }) clock) hl hr rfl g1 (o' := .map es2 clock) (fun W hW => ⟨hge, _, hW, by
        have : (es'.modify j fun e => { e with val := v' }).toList = es'.toList.set j { y with val := v' } := by
          apply List.ext_getElem?
          intro a
          rw [List.getElem?_set]
          have hjl := get_lt q2
          by_cases e : j = a
          · subst e
            rw [if_pos rfl, if_pos hjl]
            simp only [Array.getElem?_toList, Array.getElem?_modify, if_pos]
            rw [Array.getElem?_toList] at q2
            rw [q2]
            rfl
          · rw [if_neg e]
            simp only [Array.getElem?_toList, Array.getElem?_modify, if_neg e]
        rw [this]
        exact q3⟩)
      refine ⟨_, _, ?_, St, Sm, h⟩
      unfold Instr.entryStore
      have q1' : es'.findIdx? (fun e => (e.born : Int) == b) = some j := by
        have e : es' = es'.toList.toArray := by simp
        rw [e, List.findIdx?_toArray]
        exact q1
      simp only [Sem.run_bind, Result.andThen_ok, g3, asInt, asIntOf, Sem.run_pure, q1']
      exact run_setObj g1 trivial
  · exact h.elim

theorem makeMap_makes {t : TypeId} {K : Value → IHeap → Prop} (h : K (.map (some H.length)) (H ++ [.map [] 0])) : MakesAt β w P H K (Instr.makeMap t none) :=
  ⟨_, _, .map (some w.heap.size), .map #[] 0, ⟨w.heap.size, 0, 0, true⟩, h, rfl, rfl, fun L hL _ => ⟨.map hL, fun hb => ⟨hb, #[], heap_push_self w _, trivial⟩⟩⟩

theorem makeMap_gives (S : Sim β H w) {t : TypeId} {K : Value → IHeap → Prop} (h : K (.map (some H.length)) (H ++ [.map [] 0])) : Gives β w K ((Instr.makeMap t none).run P w) := (makeMap_makes h).gives S

end
end Ide
