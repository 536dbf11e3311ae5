/- The other small operations. -/
import Derived.Test.YtoikiogaiikheaaSndAE
set_option linter.unusedSectionVars false
set_option linter.unusedVariables false
set_option linter.unusedSimpArgs false
namespace Ide
open Go Go.RowKit
variable [Pol]

section
variable {P : Program} {β : Emb} {H : IHeap} {w : World}

theorem repeatL_all {p : Value → Bool} {zs : List Value} (h : zs.all p = true) : ∀ n, (repeatL n zs).all p = true
  | 0 => rfl
  | n + 1 => by rw [repeatL, List.all_append, h, repeatL_all h n]; rfl

theorem len_pg (S : Sim β H w) {t u : TypeId} {ts : List TypeId} {x x' : Value} {xs : List Value} {K : Value → Prop} (hx : VRel β.loc x x') (h : lenOf P t H x K) : PG β w P K (Builtin.len_ ⟨t :: ts⟩ u ⟨x' :: xs⟩) := by
  unfold lenOf at h
  split at h
  · rename_i s hu
    obtain rfl := hx.inv_str
    exact ⟨_, _, by simp [Builtin.len_, run_und hu, goInt], .int _ _, h⟩
  · rename_i e a n c hu
    rcases hx.inv_slice with ⟨_, rfl, _, rfl⟩ | ⟨_, _, _, _, rfl, _, rfl⟩ | ⟨_, _, _, _, _, _, _, _, rfl, _⟩ <;> exact ⟨_, _, by simp [Builtin.len_, run_und hu, goInt], .int _ _, h⟩
  · rename_i _ n e hu
    exact ⟨.int .i64 n, _, by cases x' <;> simp [Builtin.len_, run_und hu, goInt], .int _ _, h⟩
  · rename_i _ a hu
    split at h
    · rename_i n e hu'
      exact ⟨.int .i64 n, _, by cases x' <;> simp [Builtin.len_, run_und hu, run_und hu', goInt], .int _ _, h⟩
    · exact h.elim
  · rename_i k e r hu
    obtain ⟨es, es', h1, h2, h3⟩ := mapLook_sound (P := P) S hx h
    rcases h3 with ⟨rfl, rfl, rfl, rfl⟩ | ⟨b, clock, rfl, hb⟩
    · exact ⟨_, _, by simp [Builtin.len_, run_und hu, goInt], .int _ _, h2⟩
    · refine ⟨_, _, by simp only [Builtin.len_, List.getElem?_toArray, List.getElem?_cons_zero, Sem.run_bind, run_und hu, Result.andThen_ok, hb, Sem.run_pure, goInt]; rfl, ?_, h2⟩
      have := h1.length
      simp only [Array.length_toList] at this
      rw [this]
      exact .int _ _
  · exact h.elim

theorem minMaxGo_sound {mx : Bool} {k : IntKind} : ∀ {vs vs' : List Value} {a : Int} {K : Value → Prop}, VsRel β.loc vs vs' → minMaxGo mx k a vs K → ∃ r, (vs'.foldlM (match mx with | true => Builtin.max2 | false => Builtin.min2) (.int k a)).run P w = .ok (.int k r) w ∧ K (.int k r)
  | [], _, a, K, .nil, h => ⟨a, rfl, h⟩
  | v :: vs, _, a, K, .cons hv ht, h => by
    unfold minMaxGo at h
    split at h
    · contradiction
    · rename_i j b r e
      cases e
      obtain rfl := hv.inv_int
      obtain ⟨r', q1, q2⟩ := minMaxGo_sound ht h
      refine ⟨r', ?_, q2⟩
      rw [List.foldlM_cons]
      cases mx
      · simp only [Builtin.min2, Sem.run_bind, Sem.run_pure, Result.andThen_ok]
        exact q1
      · simp only [Builtin.max2, Sem.run_bind, Sem.run_pure, Result.andThen_ok]
        exact q1
    · exact h.elim

theorem minMax_pg {mx : Bool} {ts : Array TypeId} {u : TypeId} {vs vs' : List Value} {K : Value → Prop} (hv : VsRel β.loc vs vs') (h : minMax mx vs K) : PG β w P K ((match mx with | true => Builtin.max_ | false => Builtin.min_) ts u ⟨vs'⟩) := by
  unfold minMax at h
  split at h
  · rename_i k a r
    cases hv with
    | cons hv ht =>
      obtain rfl := hv.inv_int
      obtain ⟨q, q1, q2⟩ := minMaxGo_sound (P := P) (w := w) ht h
      refine ⟨.int k q, _, ?_, .int _ _, q2⟩
      cases mx
      · simpa [Builtin.min_] using q1
      · simpa [Builtin.max_] using q1
  · exact h.elim

theorem clear_sound (S : Sim β H w) {t u : TypeId} {ts : List TypeId} {x x' : Value} {xs : List Value} {K : IHeap → Prop} (hx : VRel β.loc x x') (h : clearOf P t H x K) :
    ∃ w' H', (Builtin.clear_ ⟨t :: ts⟩ u ⟨x' :: xs⟩).run P w = .ok (.tuple #[]) w' ∧ Step β w β w' ∧ Sim β H' w' ∧ K H' := by
  unfold clearOf at h
  split at h
  · rename_i k e hu
    rcases hx.inv_map with ⟨_, rfl⟩ | ⟨_, _, h', _⟩
    · exact ⟨w, H, by simp [Builtin.clear_, run_und hu], Step.refl _ _, S, h⟩
    · cases h'
  · rename_i k e r hu
    obtain ⟨es, clock, hr, h⟩ := h
    rcases hx.inv_map with ⟨h', _⟩ | ⟨id, l, h', hl, rfl⟩
    · cases h'
    · cases h'
      obtain ⟨es', g1, g2, g3⟩ := map_obj (P := P) S hl hr
      have hge := ((S.obj r l _ hl hr).block_lt rfl).2
      obtain ⟨St, Sm⟩ := S.setObj (x' := .map #[] clock) hl hr rfl g1 (o' := .map [] clock) (fun W hW => ⟨hge, _, hW, trivial⟩)
      refine ⟨_, _, ?_, St, Sm, h⟩
      simp only [Builtin.clear_, List.getElem?_toArray, List.getElem?_cons_zero, Sem.run_bind, run_und hu, Result.andThen_ok, g3, run_setObj g1 trivial, Sem.run_pure]
  · rename_i e a n c hu
    obtain ⟨hz0, hnz⟩ := bcase_sound h
    by_cases hn : n = 0
    · subst hn
      refine ⟨w, H, ?_, Step.refl _ _, S, hz0 rfl⟩
      rcases hx.inv_slice with ⟨_, _, _, rfl⟩ | ⟨_, _, _, _, _, _, rfl⟩ | ⟨_, _, _, _, _, _, _, _, rfl, _⟩ <;> simp [Builtin.clear_, run_und hu]
    · obtain ⟨i, o, q, rfl, hz⟩ := acase_sound (hnz (beq_false hn))
      clear hnz h
      unfold zeros at hz
      split at hz
      · rename_i zs hzs
        obtain ⟨hb, cs, h1, h2, h3⟩ := bif_sound hz
        simp only [Bool.and_eq_true] at hb
        obtain ⟨inf, z, hinf, hzz, hg, hcs, hcells, hgl⟩ := zeroOf_spec hzs
        rcases hx.inv_slice with ⟨h', _⟩ | ⟨_, _, _, _, h0, _⟩ | ⟨id, off, q', L, o', C, h', hl, rfl, g1, g2, g3, g4, g5⟩
        · cases h'
        · exact absurd h0 hn
        · cases h'
          obtain rfl := g4.resolve_right (by omega)
          obtain ⟨w', s1, s2, s3⟩ := S.storeCells P hl h1 h2 (VsRel.of_ground _ _ (repeatL_ground hgl n)) (repeatL_all hb.2 n)
          refine ⟨w', _, ?_, s2, s3, h3⟩
          have hzc : (Builtin.zeroCells z.cells n).toList = repeatL n zs := by
            have hpos : 0 < zs.length := by
              have := Nat.eq_of_beq_eq_true hb.1.1
              have := Nat.le_of_ble_eq_true hb.1.2
              omega
            have := range_zeros zs n (.inr hpos)
            unfold Builtin.zeroCells
            rw [hcells]
            have h2 : (⟨zs⟩ : Array Value).size = zs.length := by simp
            rw [h2] at this ⊢
            exact congrArg Array.toList this
          unfold Builtin.clear_
          simp only [List.getElem?_toArray, List.getElem?_cons_zero, Sem.run_bind, run_und hu, Result.andThen_ok]
          simp only [run_zero hinf hzz, Result.andThen_ok, hzc, s1, Sem.run_pure]
      · exact hz.elim
  · exact h.elim

theorem copy_gives (S : Sim β H w) {t u ty : TypeId} {x y x' y' : Value} {K : Value → IHeap → Prop} (hx : VRel β.loc x x') (hy : VRel β.loc y y') (h : copyOf P t H x y K) : Gives β w K ((Builtin.copy_ #[t, u] ty #[x', y']).run P w) := by
  unfold copyOf at h
  split at h
  · rename_i e a n c b m d hu
    obtain ⟨hb, h⟩ := bif_sound h
    obtain ⟨inf, hinf, hsz, _⟩ := info_of_ble hb
    rw [← hsz] at h
    obtain ⟨new, new', hn, hnr, h, hnl⟩ := sliceCells_sound (P := P) S (Nat.min_le_left m n) hy h
    obtain ⟨B, D, rfl⟩ : ∃ B D, y' = .slice B m D := by
      rcases hy.inv_slice with ⟨_, rfl, _, rfl⟩ | ⟨_, _, _, _, rfl, _, rfl⟩ | ⟨_, _, _, _, _, _, _, _, rfl, _⟩ <;> exact ⟨_, _, rfl⟩
    have hmin : Nat.min m n = min m n := rfl
    obtain ⟨hz, hnz⟩ := bcase_sound h
    have run : ∀ (A : Option Addr) (C : Nat) (r : Result Value), (A = none → Result.ok (.int .i64 (min m n : Nat)) w = r) → (∀ a0, A = some a0 → ((Go.storeCells a0 new').run P w).andThen (fun _ w' => Result.ok (.int .i64 (min m n : Nat)) w') = r) → (Builtin.copy_ #[t, u] ty #[.slice A n C, .slice B m D]).run P w = r := by
      intro A C r h1 h2
      unfold Builtin.copy_
      simp only [List.getElem?_toArray, List.getElem?_cons_zero, List.getElem?_cons_succ, Sem.run_bind, run_und hu, Result.andThen_ok, run_sz hinf, Builtin.lenOf, Sem.run_pure]
      rw [hmin, hn]
      simp only [Result.andThen_ok]
      cases A with
      | none => simpa [goInt] using h1 rfl
      | some a0 => simpa [goInt, Sem.run_bind] using h2 a0 rfl
    by_cases hmz : min m n = 0
    · have hk := hz (by rw [hmz]; rfl)
      have hnew : new' = [] := List.eq_nil_of_length_eq_zero (by rw [hnr.length, hnl, hmz]; simp)
      subst hnew
      obtain ⟨A, C, rfl⟩ : ∃ A C, x' = .slice A n C := by
        rcases hx.inv_slice with ⟨_, rfl, _, rfl⟩ | ⟨_, _, _, _, rfl, _, rfl⟩ | ⟨_, _, _, _, _, _, _, _, rfl, _⟩ <;> exact ⟨_, _, rfl⟩
      refine .same S (v' := .int .i64 0) (run A C _ (fun _ => by rw [hmz]; rfl) (fun a0 _ => by rw [hmz]; rfl)) (.int _ _) hk
    · obtain ⟨i, o, q, rfl, hone, cs, h1, h2, h3⟩ := acase_sound (hnz (beq_false hmz))
      rcases hx.inv_slice with ⟨h', _⟩ | ⟨_, _, _, _, h0, _⟩ | ⟨id, off, q', L, o', C, h', hl, rfl, g1, g2, g3, g4, g5⟩
      · cases h'
      · exact absurd (by omega : min m n = 0) hmz
      · cases h'
        obtain rfl := g4.resolve_right (by omega)
        obtain ⟨w', s1, s2, s3⟩ := S.storeCells P hl h1 h2 hnr hone
        exact ⟨.int .i64 (min m n : Nat), w', run _ _ _ (fun h => by cases h) (fun a0 ha => by cases ha; rw [s1]; rfl), β, _, _, s2, s3, .int _ _, h3⟩
  · exact h.elim

theorem extract_pg {v v' : Value} {i : Nat} {K : Value → Prop} (hv : VRel β.loc v v') (h : extractOf v i K) : PG β w P K (Instr.extract v' i) := by
  unfold extractOf at h
  split at h
  · obtain ⟨x, h1, h2⟩ := cellOf_sound h
    generalize hvv : Value.tuple ⟨_⟩ = V at hv
    cases hv <;> cases hvv
    · rename_i b hs
      obtain ⟨x', g1, g2⟩ := hs.get h1
      have : (⟨b⟩ : Array Value)[i]? = some x' := by simpa using g1
      exact ⟨x', x, by simp [Instr.extract, this], g2, h2⟩
  · exact h.elim

theorem pick_pg {c : Bool} {a b a' b' : Value} {K : Value → Prop} (ha : VRel β.loc a a') (hb : VRel β.loc b b') (h : pickV c a b K) : ∃ v, VRel β.loc v (if c then a' else b') ∧ K v := by
  unfold pickV at h
  split at h
  · obtain rfl := ha.inv_bool
    obtain rfl := hb.inv_bool
    refine ⟨_, ?_, h⟩
    cases c <;> exact .bool _
  · cases c
    · exact ⟨b, hb, h⟩
    · exact ⟨a, ha, h⟩

theorem typeAssert_pg {x x' : Value} {xt t : TypeId} {ok : Bool} {K : Value → Prop} (hx : VRel β.loc x x') (h : typeAssert P x t ok K) : PG β w P K (Instr.typeAssert x' xt t ok) := by
  unfold typeAssert at h
  split at h
  · exact h.elim
  · rename_i d z hn hd hz
    cases hx
    obtain ⟨i, hi, hzz, hg⟩ := zeroV_spec hz
    refine ⟨.tuple #[z, .bool false], _, ?_, .tuple (.cons (VRel.of_ground _ _ hg) (.cons (.bool _) .nil)), h⟩
    unfold Instr.typeAssert
    simp only [Sem.run_bind, run_und hd, Result.andThen_ok]
    cases d <;> first | (exact absurd rfl (hn _)) | simp [run_zero hi hzz]
  · rename_i d z u v hn hd hz
    cases hx with
    | iface hv =>
      rename_i v'
      obtain ⟨i, hi, hzz, hg⟩ := zeroV_spec hz
      obtain ⟨h1, h2⟩ := bcase_sound h
      by_cases e : u = t
      · subst e
        have hK := shaped_sound (K := fun v => K (.tuple ⟨[v, .bool true]⟩)) (h1 (by simp))
        refine ⟨.tuple #[v', .bool true], _, ?_, .tuple (.cons hv (.cons (.bool _) .nil)), hK⟩
        unfold Instr.typeAssert
        simp only [Sem.run_bind, run_und hd, Result.andThen_ok]
        cases d <;> first | (exact absurd rfl (hn _)) | simp
      · refine ⟨.tuple #[z, .bool false], _, ?_, .tuple (.cons (VRel.of_ground _ _ hg) (.cons (.bool _) .nil)), h2 (beq_false e)⟩
        unfold Instr.typeAssert
        simp only [Sem.run_bind, run_und hd, Result.andThen_ok]
        cases d <;> first | (exact absurd rfl (hn _)) | simp [e, run_zero hi hzz]
  · exact h.elim

theorem range_gives (S : Sim β H w) {t : TypeId} {x x' : Value} {K : Value → IHeap → Prop} (hx : VRel β.loc x x') (h : rangeOf P t H x K) : Gives β w K ((Instr.range t x').run P w) := by
  unfold rangeOf at h
  split at h
  · rename_i k e hu
    rcases hx.inv_map with ⟨_, rfl⟩ | ⟨_, _, h', _⟩
    · obtain ⟨St, Sm⟩ := (S.ghost (.mapIter none 0 #[] 0)).make (id := Pol.pos H) (o := .mapIter none 0 #[] 0) (newO_self _ _) S.unplaced (.mapIter none 0 #[] 0) ⟨w.heap.size, 0, 0, true⟩ rfl ⟨S.base_le, rfl, none, heap_push_self w _, rfl⟩
      refine ⟨.pointer (some ⟨w.heap.size, 0, none⟩), _, ?_, _, _, newPtr H, St, Sm, .ptr (Emb.with_self _ _ _), h⟩
      simp [Instr.range, run_und hu]
    · cases h'
  · rename_i k e r hu
    obtain ⟨es, clock, hr, h⟩ := h
    rcases hx.inv_map with ⟨h', _⟩ | ⟨id, l, h', hl, rfl⟩
    · cases h'
    · cases h'
      obtain ⟨es', g1, g2, g3⟩ := map_obj (P := P) S hl hr
      obtain ⟨St, Sm⟩ := (S.ghost (.mapIter (some r) clock #[] clock)).make (id := Pol.pos H) (o := .mapIter (some r) clock #[] clock) (newO_self _ _) S.unplaced (.mapIter (some l.block) clock #[] clock) ⟨w.heap.size, 0, 0, true⟩ rfl ⟨S.base_le, rfl, some l.block, heap_push_self w _, l, (Emb.with_le _ S.unplaced.1).2 _ _ hl, rfl⟩
      refine ⟨.pointer (some ⟨w.heap.size, 0, none⟩), _, ?_, _, _, newPtr H, St, Sm, .ptr (Emb.with_self _ _ _), h⟩
      simp [Instr.range, run_und hu, g3]
  · exact h.elim

def mRel (L : LMap) : Option Nat → Option Nat → Prop
  | none, m' => m' = none
  | some id, m' => ∃ lm, L id = some lm ∧ m' = some lm.block

theorem iter_obj (S : Sim β H w) {r : Nat} {l : Loc} {m : Option Nat} {since : Nat} {seen : Array Nat} {stepped : Nat} (hl : β.loc r = some l) (hr : H[r]? = some (.mapIter m since seen stepped)) :
    l.base = 0 ∧ ∃ m', w.heap[l.block]? = some (.mapIter m' since seen stepped) ∧ (Go.getObj l.block).run P w = .ok (.mapIter m' since seen stepped) w ∧ mRel β.loc m m' := by
  obtain ⟨_, h0, m', h1, h2⟩ := S.obj r l _ hl hr
  exact ⟨h0, m', h1, run_getObj h1 trivial, by cases m <;> exact h2⟩

theorem entry_pg (S : Sim β H w) {it it' : Value} {K : Value → Prop} (hi : VRel β.loc it it') (h : entryOf H it K) : PG β w P K (Instr.entry it') := by
  unfold entryOf at h
  split at h
  · rename_i r
    obtain ⟨id, since, seen, stepped, e, hr, es, clock, hm, he, rfl, x, hx, hK⟩ := h
    obtain ⟨_, l, hl, rfl⟩ := hi.inv_ptr
    obtain ⟨hb, m', _, g2, lm, g3, rfl⟩ := iter_obj (P := P) S hl hr
    obtain ⟨es', p1, p2, p3⟩ := map_obj (P := P) S g3 hm
    have key : ∀ {es xs : List MapEntry}, EsRel β.loc es xs → es.find? (·.born == e) = some x → ∃ y, xs.find? (·.born == e) = some y ∧ y.key = x.key ∧ ground x.key = true ∧ VRel β.loc x.val y.val := by
      intro es
      induction es with
      | nil => intro xs _ h; simp at h
      | cons a es ih =>
        intro xs hx h
        cases xs with
        | nil => exact hx.elim
        | cons b xs =>
          obtain ⟨h1, h2, h3, h4, h5⟩ := hx
          simp only [List.find?_cons] at h ⊢
          rw [h3]
          split at h
          · cases h
            exact ⟨b, rfl, h1, h2, h4⟩
          · exact ih h5 h
    obtain ⟨y, q1, q2, q3, q4⟩ := key p2 hx
    refine ⟨.tuple #[y.key, y.val], _, ?_, .tuple (.cons (by rw [q2]; exact VRel.of_ground _ _ q3) (.cons q4 .nil)), hK⟩
    have q1' : es'.find? (·.born == e) = some y := by rw [← Array.find?_toList]; exact q1
    unfold Instr.entry
    rw [hb]
    simp only [Nat.add_zero, Sem.run_bind, g2, Result.andThen_ok, he, p3, bne_self_eq_false, Bool.false_eq_true, if_false, Sem.run_ite, q1', Sem.run_pure]
  · exact h.elim

theorem next_gives (S : Sim β H w) {it it' : Value} {ty : TypeId} {K : Value → IHeap → Prop} (hi : VRel β.loc it it') (h : nextOf H it K) : Gives β w K ((Instr.next it' false ty).run P w) := by
  unfold nextOf at h
  split at h
  · rename_i r
    obtain ⟨m, since, seen, stepped, hr, h⟩ := h
    obtain ⟨_, l, hl, rfl⟩ := hi.inv_ptr
    obtain ⟨hb, m', g1, g2, g3⟩ := iter_obj (P := P) S hl hr
    cases m with
    | none =>
      have g3 : m' = none := g3
      subst g3
      refine .same S (v' := .tuple #[.bool false]) ?_ (.tuple (.cons (.bool _) .nil)) h
      unfold Instr.next
      rw [hb]
      simp only [Nat.add_zero, Sem.run_bind, g2, Result.andThen_ok, Sem.run_pure]
    | some id =>
      obtain ⟨lm, g3, rfl⟩ := g3
      obtain ⟨es, clock, hm, hno, hend, hstep⟩ := h
      obtain ⟨es', p1, p2, p3⟩ := map_obj (P := P) S g3 hm
      have hborn : ∀ {es xs : List MapEntry}, EsRel β.loc es xs → ∀ y ∈ xs, ∃ x ∈ es, y.key = x.key ∧ ground x.key = true ∧ y.born = x.born ∧ VRel β.loc x.val y.val := by
        intro es
        induction es with
        | nil => intro xs hx y hy; cases xs with | nil => simp at hy | cons _ _ => exact hx.elim
        | cons a es ih =>
          intro xs hx y hy
          cases xs with
          | nil => exact hx.elim
          | cons b xs =>
            obtain ⟨h1, h2, h3, h4, h5⟩ := hx
            rcases List.mem_cons.1 hy with rfl | hy
            · exact ⟨a, by simp, h1, h2, h3, h4⟩
            · obtain ⟨x, hx, hh⟩ := ih h5 y hy
              exact ⟨x, by simp [hx], hh⟩
      have hborn' : ∀ {es xs : List MapEntry}, EsRel β.loc es xs → ∀ x ∈ es, ∃ y ∈ xs, y.born = x.born := by
        intro es
        induction es with
        | nil => intro xs hx x hx2; simp at hx2
        | cons a es ih =>
          intro xs hx x hx2
          cases xs with
          | nil => exact hx.elim
          | cons b xs =>
            obtain ⟨h1, h2, h3, h4, h5⟩ := hx
            rcases List.mem_cons.1 hx2 with rfl | hx2
            · exact ⟨b, by simp, h3⟩
            · obtain ⟨y, hy, hh⟩ := ih h5 x hx2
              exact ⟨y, by simp [hy], hh⟩
      have hguard : (!seen.isEmpty && !es'.isEmpty && es'.all (fun e => decide (e.born ≥ stepped))) = false := by
        rcases hno with rfl | rfl | hno
        · simp
        · have := p2.length
          simp at this
          simp [this]
        · cases hall : es'.all (fun e => decide (e.born ≥ stepped)) with
          | false => simp
          | true =>
            exfalso
            have : es.all (fun e => decide (e.born ≥ stepped)) = true := by
              rw [List.all_eq_true]
              intro x hx
              obtain ⟨y, hy, hyb⟩ := hborn' p2 x hx
              have := Array.all_eq_true_iff_forall_mem.1 hall y (by simpa using hy)
              rw [← hyb]
              exact this
            rw [this] at hno
            cases hno
      -- the candidates
      let left := es'.filter fun e => !seen.contains e.born
      let old := left.filter fun e => decide (e.born < since)
      let new := left.filter fun e => decide (e.born ≥ since)
      let cand : Array (Option MapEntry) := (if old.isEmpty then #[none] else #[]) ++ (old ++ new).map some
      have hcand : 0 < cand.size := by
        show 0 < ((if old.isEmpty then #[none] else #[]) ++ (old ++ new).map some : Array (Option MapEntry)).size
        by_cases ho : old.isEmpty
        · rw [if_pos ho]; simp; omega
        · rw [if_neg ho]
          have : 0 < old.size := by
            rcases Nat.eq_zero_or_pos old.size with h | h
            · exact absurd (by simpa using h) ho
            · exact h
          simp; omega
      have hmem : ∀ (k : Nat) (o : Option MapEntry), cand[k]? = some o → (o = none ∧ old.isEmpty = true) ∨ ∃ y, o = some y ∧ y ∈ es' ∧ seen.contains y.born = false := by
        intro k o hk
        have hin : o ∈ cand := Array.mem_of_getElem? hk
        rcases Array.mem_append.1 hin with hin | hin
        · by_cases ho : old.isEmpty
          · rw [if_pos ho] at hin
            simp at hin
            exact .inl ⟨hin, ho⟩
          · rw [if_neg ho] at hin
            simp at hin
        · obtain ⟨y, hy, rfl⟩ := Array.mem_map.1 hin
          right
          refine ⟨y, rfl, ?_⟩
          have hl : y ∈ left := by
            rcases Array.mem_append.1 hy with hy | hy
            · exact (Array.mem_filter.1 hy).1
            · exact (Array.mem_filter.1 hy).1
          have := Array.mem_filter.1 hl
          exact ⟨this.1, by simpa using this.2⟩
      have hchoose : ∃ k w1, (choose (.mapNext cand.size)).run P w = .ok k w1 ∧ k < cand.size ∧ w1.heap = w.heap ∧ Below β.w0.heap.size w w1 := by
        rw [Go.run_choose]
        by_cases hf : (Question.mapNext cand.size).forced = true
        · rw [if_pos hf]
          exact ⟨0, w, rfl, hcand, rfl, Below.refl _ _⟩
        · rw [if_neg hf]
          exact ⟨_, _, rfl, Nat.mod_lt _ hcand, rfl, Below.drew (Below.refl _ _)⟩
      obtain ⟨k, w1, hch, hklt, hw1, hbel⟩ := hchoose
      have S1 : Sim β H w1 := S.congr hw1 hbel
      have St1 : Step β w β w1 := Step.of_heap hw1
      have hrun : ∀ (r : Result Value), (∀ o, cand[k]? = some o → (match o with
            | some e => (Go.setObj l.block (.mapIter (some lm.block) since (seen.push e.born) clock) >>= fun _ => (pure (.tuple #[.bool true, e.key, e.val]) : Sem Value)).run P w1 = r
            | none => (pure (.tuple #[.bool false]) : Sem Value).run P w1 = r)) →
          (Instr.next (.pointer (some ⟨l.block, l.base + 0, none⟩)) false ty).run P w = r := by
        intro r hr
        obtain ⟨o, ho⟩ : ∃ o, cand[k]? = some o := ⟨cand[k], Array.getElem?_eq_getElem hklt⟩
        have := hr o ho
        unfold Instr.next
        rw [hb]
        simp only [Nat.add_zero, Sem.run_bind, g2, Result.andThen_ok, p3, Sem.run_ite]
        rw [if_neg (by rw [hguard]; simp)]
        have hch' : (choose (Question.mapNext ((if old.isEmpty = true then #[none] else #[]) ++ (old ++ new).map some : Array (Option MapEntry)).size)).run P w = .ok k w1 := hch
        rw [hch']
        simp only [Result.andThen_ok]
        have ho' : ((if old.isEmpty = true then #[none] else #[]) ++ (old ++ new).map some : Array (Option MapEntry))[k]? = some o := ho
        rw [ho']
        cases o with
        | none => exact this
        | some e => exact this
      have hchoice : cand[k]? = some cand[k] := Array.getElem?_eq_getElem hklt
      rcases hmem k _ hchoice with ⟨hn, hold⟩ | ⟨y, hy, hy1, hy2⟩
      · rw [hn] at hchoice
        have hempty : (es.filter fun e => !seen.contains e.born && decide (e.born < since)) = [] := by
          rw [List.filter_eq_nil_iff]
          intro x hx hc
          obtain ⟨y, hy, hyb⟩ := hborn' p2 x hx
          simp only [Bool.and_eq_true] at hc
          have hm1 : y ∈ left := Array.mem_filter.2 ⟨by simpa using hy, by rw [hyb]; exact hc.1⟩
          have hm2 : y ∈ old := Array.mem_filter.2 ⟨hm1, by rw [hyb]; exact hc.2⟩
          have : old = #[] := by simpa using hold
          rw [this] at hm2
          simp at hm2
        refine ⟨.tuple #[.bool false], w1, hrun _ (fun o ho => ?_), β, H, _, St1, S1, .tuple (.cons (.bool _) .nil), hend hempty⟩
        rw [hchoice] at ho
        cases ho
        rfl
      · rw [hy] at hchoice
        obtain ⟨x, hx1, hx2, hx3, hx4, hx5⟩ := hborn p2 y (by simpa using hy1)
        have hK := hstep x hx1 (by rw [← hx4]; exact hy2)
        have hge := ((S1.obj r l _ hl hr).block_lt rfl).2
        obtain ⟨St, Sm⟩ := S1.setObj (x' := .mapIter (some lm.block) since (seen.push y.born) clock) hl hr rfl (by rw [hw1]; exact g1) (o' := .mapIter (some id) since (seen.push x.born) clock) (fun W hW => ⟨hge, hb, some lm.block, by rw [hx4] at hW; exact hW, lm, g3, rfl⟩)
        refine ⟨.tuple #[.bool true, y.key, y.val], _, hrun _ (fun o ho => ?_), β, _, _, St1.trans St, Sm, .tuple (.cons (.bool _) (.cons (by rw [hx2]; exact VRel.of_ground _ _ hx3) (.cons hx5 .nil))), hK⟩
        rw [hchoice] at ho
        cases ho
        show ((Go.setObj l.block (Obj.mapIter (some lm.block) since (seen.push y.born) clock) >>= fun _ => (pure (.tuple #[.bool true, y.key, y.val]) : Sem Value)).run P w1) = _
        rw [Sem.run_bind, run_setObj (show w1.heap[l.block]? = _ by rw [hw1]; exact g1) trivial]
        rfl
  · exact h.elim

end
end Ide

/- Every operation. -/
set_option linter.unusedVariables false
set_option linter.unusedSimpArgs false
namespace Ide
open Go Go.RowKit
variable [Pol]

/-- Every function, no bound on the depth; in a round, or not. -/
def Fz (ro : Option Nat) : Fence := { Fence.wide with round := ro }
theorem Fz_none : Fz none = Fence.wide := rfl

theorem room_fz (ro : Option Nat) (n : Nat) : (Fz ro).room n := fun d hd => by cases hd

theorem callsIn_fz {ro : Option Nat} {n : Nat} {P : Program} {f : FuncId} {args : Array Value} {w : World} {R : Ending → World → Prop} (h : CallsIn Fence.wide 0 P f args w R) : CallsIn (Fz ro) n P f args w R :=
  ⟨trivial, fun cs _ => h.2 cs (fun d hd => by cases hd)⟩

theorem roundIn_fz {ro : Option Nat} {n : Nat} {P : Program} {l : Nat} {f : FuncId} {tmps : Array Value} {assign body : Code} {w : World} {R : Ending → World → Prop} (h : RoundIn Fence.wide 0 P l f tmps assign body w R) : RoundIn (Fz ro) n P l f tmps assign body w R :=
  ⟨trivial, fun c cs _ => h.2 c cs (fun d hd => by cases hd)⟩

def OpdRel (L : LMap) (env : Env) (a : Act) (op : Op) : Prop := ∀ x ∈ op.operands.toList, VRel L (iev env x) (a.eval x)

theorem TRel.opd {L : LMap} {nt : Nat} {env : Env} {a : Act} (h : TRel L nt env a.tmps) {op : Op} (ho : op.operands.toList.all (okOpd nt) = true) : OpdRel L env a op :=
  fun x hx => iev_rel h (List.all_eq_true.mp ho x hx)

/-- Calls of builtins with two operands have two types. -/
def okCall : Op → Bool
  | .call { callee := .builtin .append, args := ⟨[_, _]⟩, argTypes := ⟨[_, _]⟩ } => true
  | .call { callee := .builtin .copy, args := ⟨[_, _]⟩, argTypes := ⟨[_, _]⟩ } => true
  | .call { callee := .builtin .delete, args := ⟨[_, _]⟩, argTypes := ⟨_⟩ } => true
  | .call { callee := .builtin .append, .. } => false
  | .call { callee := .builtin .copy, .. } => false
  | .call { callee := .builtin .delete, .. } => false
  | .defer _ => false
  | _ => true

def okOper (nt : Nat) (o : Oper) : Bool :=
  (match o.dst with | none => true | some d => Nat.blt d nt) && o.op.operands.toList.all (okOpd nt) && okCall o.op

section
variable {P : Program} {β : Emb} {H : IHeap} {w : World} {nt : Nat} {env : Env} {a : Act} {o : Oper} {next : Act → World → Prop} {Q : Exit → Act → World → Prop} {K Qp : Value → IHeap → Prop} {ro : Option Nat}

theorem wpIn_fits (hnd : ∀ c, o.op ≠ .defer c) (h : Fits β w K ((execOp a.eval o).run P w))
    (hN : ∀ β' H' v v' w', Step β w β' w' → Sim β' H' w' → VRel β'.loc v v' → K v H' → next (a.put o.dst v') w') : o.wpIn (Fz ro) 0 P a w next Q := by
  obtain ⟨x, v', w', hr, hx, β', H', v, h1, h2, h3, h4⟩ := h
  refine ⟨fun _ _ => trivial, ?_⟩
  rw [Oper.semAt_eq _ _ _ hnd, hr]
  rcases hx with rfl | ⟨rfl, rfl⟩
  · rw [Oper.uponIn_value]
    exact hN β' H' v v' w' h1 h2 h3 h4
  · rw [Oper.uponIn_skip]
    exact hN β' H' v undef w' h1 h2 h3 h4

theorem run_callFunc {g : FuncId} {args : Array Value} (h : callable P g = true) : (callFunc g args).run P w = .ok (.enter g args) w := by
  unfold callable at h
  split at h
  · rename_i fn hf
    simp only [Bool.and_eq_true, Bool.not_eq_true'] at h
    unfold callFunc
    obtain ⟨h1, h2⟩ := h
    have hn : fn.name ≠ "runtime.NumGoroutine" := by simpa using h1
    have hb : fn.body ≠ none := by intro hb; rw [hb] at h2; cases h2
    simp [hf, hn, hb]
  · cases h

/-- Behind a call. -/
theorem after_call {t : TypeId} (hN : ∀ β' H' v v' w', Step β w β' w' → Sim β' H' w' → VRel β'.loc v v' → K v H' → next (a.put o.dst v') w')
    (hP : ∀ β' H' v v' w', Step β w β' w' → Sim β' H' w' → VRel β'.loc v v' → Qp v H' → Q (.panic [{ v := v', recovered := false }]) a w') :
    ∀ (e : Ending) (w' : World), After β w (endK P t K Qp) e w' → (match e with | .returned v => next (a.put o.dst v) w' | .panicked chain => Q (.panic chain) a w' | .outgrown => LetsOut Q) := by
  rintro e w' ⟨β', H', h1, h2, h3⟩
  cases e with
  | returned v' =>
    obtain ⟨v, h4, h5⟩ := h3
    exact hN β' H' v v' w' h1 h2 h4 (result_sound (K := fun v => K v H') h5)
  | panicked chain =>
    obtain ⟨v, v', rfl, h4, h5⟩ := h3
    exact hP β' H' v v' w' h1 h2 h4 h5
  | outgrown => exact h3.elim

theorem putAll_rel {L : LMap} : ∀ {ps : List Tmp} {xs xs' : List Value} {e : Env} {tm : Array Value}, VsRel L xs xs' → ps.all (Nat.blt · nt) = true → TRel L nt e tm → TRel L nt (putAll ps xs e) ((ps.zip xs').foldl (fun tmps (t, a) => tmps.setIfInBounds t a) tm)
  | [], _, _, e, tm, _, _, h => by simpa [putAll] using h
  | _ :: _, _, _, e, tm, .nil, _, h => by simpa [putAll] using h
  | p :: ps, _, _, e, tm, .cons (v := v) (v' := v') hv ht, hp, h => by
    have hp' : Nat.blt p nt = true ∧ ps.all (Nat.blt · nt) = true := by simpa using hp
    have hlt : p < nt := by simpa [Nat.blt_eq] using hp'.1
    simp only [putAll, List.zip_cons_cons, List.foldl_cons]
    refine putAll_rel ht hp'.2 ⟨by simp [h.1], fun t ht => ?_⟩
    simp only [lk]
    by_cases e : p = t
    · subst e
      have : Nat.beq p p = true := by simp
      rw [this, cond_true, Array.getD_eq_getD_getElem?, Array.getElem?_setIfInBounds_self_of_lt (by rw [h.1]; exact hlt)]
      exact hv
    · rw [beq_false e, cond_false, Array.getD_eq_getD_getElem?, Array.getElem?_setIfInBounds_ne e, ← Array.getD_eq_getD_getElem?]
      exact h.2 t ht

theorem icallV_sound (hnd : ∀ c, o.op ≠ .defer c) (S : Sim β H w) {f f' : Value} {args args' : List Value} {t : TypeId} (hf : VRel β.loc f f') (ha : VsRel β.loc args args') (h : icallV P f args H (endK P t K Qp))
    (hrun : (execOp a.eval o).run P w = ((do let d ← Deferred.ofValue f' ⟨args'⟩; invoke d.target d.args) : Sem Next).run P w)
    (hN : ∀ β' H' v v' w', Step β w β' w' → Sim β' H' w' → VRel β'.loc v v' → K v H' → next (a.put o.dst v') w')
    (hP : ∀ β' H' v v' w', Step β w β' w' → Sim β' H' w' → VRel β'.loc v v' → Qp v H' → Q (.panic [{ v := v', recovered := false }]) a w') : o.wpIn (Fz ro) 0 P a w next Q := by
  refine ⟨fun _ _ => trivial, ?_⟩
  rw [Oper.semAt_eq _ _ _ hnd, hrun]
  unfold icallV at h
  split at h
  · rename_i g first cap
    generalize hff : Value.func (.func g) ⟨first⟩ ⟨cap⟩ = F at hf
    cases hf <;> cases hff
    rename_i b d h1 h2
    have hres : ((do let d ← Deferred.ofValue (.func (.func g) ⟨b⟩ ⟨d⟩) ⟨args'⟩; invoke d.target d.args) : Sem Next).run P w = .ok (.enter g ⟨b ++ args' ++ d⟩) w := by
      simp only [Deferred.ofValue, Sem.run_bind, Sem.run_pure, Result.andThen_ok, invoke]
      rw [run_callFunc h.1]
      simp
    rw [hres, Oper.uponIn_enter]
    refine ⟨(fun hd => by cases hd), callsIn_fz ((h.2 β w _ S ((h1.append ha).append h2)).mono fun e w' hA => ?_)⟩
    have := after_call (o := o) (a := a) (next := next) hN hP e w' hA
    cases e <;> exact this
  · rename_i l x y
    generalize hff : Value.func (.yield l) x y = F at hf
    cases hf <;> cases hff
    rename_i ll hl
    obtain ⟨st, pend, fn, tm, nt', params, assign, body, hH, hlen, hpar, hround⟩ := h
    obtain ⟨_, tm', df, fn', ht, hw⟩ := S.obj l ll _ hl hH
    have hres : ((do let d ← Deferred.ofValue (.func (.yield ll.block) #[] #[]) ⟨args'⟩; invoke d.target d.args) : Sem Next).run P w =
        .ok (.round ll.block fn' ((params.toList.zip args').foldl (fun tmps (t, a) => tmps.setIfInBounds t a) tm') assign body) w := by
      simp only [Deferred.ofValue, Sem.run_bind, Sem.run_pure, Result.andThen_ok, invoke, Instr.yield, Instr.getLoop]
      rw [run_getObj hw trivial]
      simp only [Result.andThen_ok, Sem.run_pure, Sem.run_ite]
      have hsz : (#[] ++ (⟨args'⟩ : Array Value)).size = params.size := by
        simp [ha.length, hlen]
      rw [if_neg (by simp [ha.length, hlen])]
      congr 2
      rw [← Array.foldl_toList]
      simp
    rw [hres, Oper.uponIn_round]
    refine ⟨(fun hd => by cases hd), roundIn_fz ((hround fn' β w _ ll S hl (putAll_rel ha hpar ht)).mono fun e w' hA => ?_)⟩
    have := after_call (o := o) (a := a) (next := next) hN hP e w' hA
    cases e <;> exact this
  · exact h.elim

theorem Fits.unit {s : Sem Unit} {K : Value → IHeap → Prop} (h : ∃ w' H', s.run P w = .ok () w' ∧ Step β w β w' ∧ Sim β H' w' ∧ K anyV H') : Fits β w K ((do s; pure Next.skip : Sem Next).run P w) := by
  obtain ⟨w', H', h1, h2, h3, h4⟩ := h
  exact .skip (by simp [h1]) h2 h3 h4

theorem Fits.empty {s : Sem Value} {K : Value → IHeap → Prop} (h : ∃ w' H', s.run P w = .ok (.tuple #[]) w' ∧ Step β w β w' ∧ Sim β H' w' ∧ K (.tuple ⟨[]⟩) H') : Fits β w K ((do pure (Next.value (← s)) : Sem Next).run P w) := by
  obtain ⟨w', H', h1, h2, h3, h4⟩ := h
  exact .val (by simp [h1]) h2 h3 (.tuple .nil) h4

theorem iop_sound (ho : okOper nt o = true) (S : Sim β H w) (hev : OpdRel β.loc env a o.op) (h : iop P o env H K Qp)
    (hN : ∀ β' H' v v' w', Step β w β' w' → Sim β' H' w' → VRel β'.loc v v' → K v H' → next (a.put o.dst v') w')
    (hP : ∀ β' H' v v' w', Step β w β' w' → Sim β' H' w' → VRel β'.loc v v' → Qp v H' → Q (.panic [{ v := v', recovered := false }]) a w') : o.wpIn (Fz ro) 0 P a w next Q := by
  obtain ⟨dst, op, type, pos, after, guard⟩ := o
  simp only [okOper, Bool.and_eq_true] at ho
  obtain ⟨⟨hd, hall⟩, hc⟩ := ho
  have ev : ∀ {x : Operand}, x ∈ op.operands.toList → VRel β.loc (iev env x) (a.eval x) := fun hx => hev _ hx
  have key : ∀ l : List Operand, (∀ x ∈ l, VRel β.loc (iev env x) (a.eval x)) → VsRel β.loc (l.map (iev env)) (l.map a.eval) := by
    intro l
    induction l with
    | nil => intro _; exact .nil
    | cons x l ih => intro hh; exact .cons (hh x (by simp)) (ih fun y hy => hh y (by simp [hy]))
  by_cases hnd : ∀ c, op ≠ .defer c
  case neg => cases op <;> simp [okCall] at hnd hc
  have fit := fun (hf : Fits β w K ((execOp a.eval ⟨dst, op, type, pos, after, guard⟩).run P w)) => wpIn_fits (o := ⟨dst, op, type, pos, after, guard⟩) (ro := ro) (next := next) (Q := Q) hnd hf hN
  cases op with
  | move x => exact fit (.same S rfl (ev (by simp [Op.operands])) h)
  | assign x => exact fit (.same S rfl (ev (by simp [Op.operands])) h)
  | pick c x y =>
    simp only [iop] at h
    have hcv := ev (x := c) (by simp [Op.operands])
    split at h
    · rename_i b hb
      rw [hb] at hcv
      obtain ⟨v, h1, h2⟩ := pick_pg (ev (x := x) (by simp [Op.operands])) (ev (x := y) (by simp [Op.operands])) h
      exact fit (.same S (by simp [execOp, asBool, hcv.inv_bool]) h1 h2)
    · exact h.elim
  | alloc t => exact fit (Gives.fits (alloc_gives S h))
  | box t x => exact fit (Gives.fits (box_gives S (ev (x := x) (by simp [Op.operands])) h))
  | build t ps => exact fit (Gives.fits (PG.gives S (build_pg (fun p hp => ev (x := p.2) (by simp only [Op.operands]; exact List.mem_map.2 ⟨p, hp, rfl⟩)) h)))
  | buildSlice t n ps => exact fit (Gives.fits (buildSlice_gives S (fun p hp => ev (x := p.2) (by simp only [Op.operands]; exact List.mem_map.2 ⟨p, hp, rfl⟩)) h))
  | load t x => exact fit (Gives.fits (load_gives S (ev (x := x) (by simp [Op.operands])) h))
  | store t x y => exact fit (Fits.unit (store_sound S (K := fun H' => K anyV H') (ev (x := x) (by simp [Op.operands])) (ev (x := y) (by simp [Op.operands])) h))
  | nilCheck x =>
    simp only [iop] at h
    have hx := ev (x := x) (by simp [Op.operands])
    split at h
    · rename_i p hp
      obtain ⟨i, f, rfl, hk⟩ := pcase_sound h
      rw [hp] at hx
      obtain ⟨l, hl, hx'⟩ := hx.inv_ptr
      exact fit (.same S (by simp [execOp, hx']) hx hk)
    · rename_i f x' y' hp
      rw [hp] at hx
      generalize hz : a.eval x = z at hx
      cases hx with
      | func h1 h2 => exact fit (.same S (by simp [execOp, hz]) (.func h1 h2) h)
      | yield hl => exact fit (.same S (by simp [execOp, hz]) (.yield hl) h)
    · exact h.elim
  | binOp op t x y z => exact fit (Gives.fits (PG.gives S (binOp_sound (ev (x := x) (by simp [Op.operands])) (ev (x := y) (by simp [Op.operands])) h)))
  | unOp op t x => exact fit (Gives.fits (PG.gives S (unOp_sound (ev (x := x) (by simp [Op.operands])) h)))
  | convert s d x => exact fit (Gives.fits (PG.gives S (convert_sound (ev (x := x) (by simp [Op.operands])) h)))
  | makeInterface t x =>
    simp only [iop] at h
    have hx := ev (x := x) (by simp [Op.operands])
    split at h
    · exact h.elim
    · rename_i d hn hu
      refine fit (.same S (v' := .iface t (a.eval x)) ?_ (.iface hx) h)
      simp only [execOp, Instr.makeInterface, Sem.run_bind, run_und hu, Result.andThen_ok]
      cases d <;> first | rfl | exact (hn _ rfl).elim
    · exact h.elim
  | makeFunc fn first cap =>
    cases fn <;> try exact (h : False).elim
    rename_i f
    obtain ⟨first⟩ := first
    obtain ⟨cap⟩ := cap
    refine fit (.same S (v' := .func (.func f) ⟨first.map a.eval⟩ ⟨cap.map a.eval⟩) (by simp [execOp, Instr.makeFunc]) (.func (key _ fun x hx => ev (by simp [Op.operands, hx])) (key _ fun x hx => ev (by simp [Op.operands, hx]))) h)
  | makeMap t r =>
    cases r with
    | none => exact fit (Gives.fits (makeMap_gives S h))
    | some r => exact (h : False).elim
  | makeSlice t l c => exact fit (Gives.fits (makeSlice_gives S (ev (x := l) (by simp [Op.operands])) (ev (x := c) (by simp [Op.operands])) h))
  | slice t x lo hi mx =>
    have hopt : ∀ {y : Option Operand}, (∀ z, y = some z → z ∈ (Op.slice t x lo hi mx).operands.toList) → ORelV β.loc (y.map (iev env)) (y.map a.eval) := by
      intro y hy
      cases y with
      | none => trivial
      | some z => exact ev (hy z rfl)
    exact fit (Gives.fits (PG.gives S (slice_pg S (ev (x := x) (by simp [Op.operands])) (hopt (by rintro z rfl; simp [Op.operands])) (hopt (by rintro z rfl; simp [Op.operands])) (hopt (by rintro z rfl; simp [Op.operands])) h)))
  | fieldAddr t x f => exact fit (Gives.fits (PG.gives S (fieldAddr_sound (ev (x := x) (by simp [Op.operands])) h)))
  | field t x f => exact fit (Gives.fits (PG.gives S (field_sound (ev (x := x) (by simp [Op.operands])) h)))
  | indexAddr t x i => exact fit (Gives.fits (PG.gives S (indexAddr_sound (ev (x := x) (by simp [Op.operands])) (ev (x := i) (by simp [Op.operands])) h)))
  | index t x i => exact fit (Gives.fits (PG.gives S (index_sound (ev (x := x) (by simp [Op.operands])) (ev (x := i) (by simp [Op.operands])) h)))
  | lookup t m k ok => exact fit (Gives.fits (PG.gives S (lookup_pg S (ev (x := m) (by simp [Op.operands])) (ev (x := k) (by simp [Op.operands])) h)))
  | mapUpdate t m k v => exact fit (Fits.unit (mapUpdate_sound S (K := fun H' => K anyV H') (ev (x := m) (by simp [Op.operands])) (ev (x := k) (by simp [Op.operands])) (ev (x := v) (by simp [Op.operands])) h))
  | insert t m k v => exact fit (Fits.unit (mapUpdate_sound S (K := fun H' => K anyV H') (ev (x := m) (by simp [Op.operands])) (ev (x := k) (by simp [Op.operands])) (ev (x := v) (by simp [Op.operands])) h))
  | mapEntry t m k => exact fit (Gives.fits (mapEntry_gives S (ev (x := m) (by simp [Op.operands])) (ev (x := k) (by simp [Op.operands])) h))
  | entryStore t m s v => exact fit (Fits.unit (entryStore_sound S (K := fun H' => K anyV H') (ev (x := m) (by simp [Op.operands])) (ev (x := s) (by simp [Op.operands])) (ev (x := v) (by simp [Op.operands])) h))
  | range t x => exact fit (Gives.fits (range_gives S (ev (x := x) (by simp [Op.operands])) h))
  | next it isS =>
    cases isS with
    | true => exact (h : False).elim
    | false => exact fit (Gives.fits (next_gives S (ev (x := it) (by simp [Op.operands])) h))
  | entry it => exact fit (Gives.fits (PG.gives S (entry_pg S (ev (x := it) (by simp [Op.operands])) h)))
  | typeAssert x xt t ok => exact fit (Gives.fits (PG.gives S (typeAssert_pg (ev (x := x) (by simp [Op.operands])) h)))
  | extract x i => exact fit (Gives.fits (PG.gives S (extract_pg (ev (x := x) (by simp [Op.operands])) h)))
  | call c =>
    obtain ⟨callee, args, tys⟩ := c
    simp only [iop, icall] at h
    cases callee with
    | value f =>
      obtain ⟨args⟩ := args
      refine icallV_sound hnd S (ev (x := f) (by simp [Op.operands, Call.operands])) (args' := args.map a.eval) (key _ fun x hx => ev (by simp [Op.operands, Call.operands, hx])) h ?_ hN hP
      · simp [execOp, resolve]
    | invoke r n => exact h.elim
    | builtin b =>
      obtain ⟨ts⟩ := tys
      obtain ⟨as⟩ := args
      have hrun : (∀ cs, Fits β w K ((builtin b ⟨ts⟩ type cs ⟨as.map a.eval⟩ : Sem Next).run P w)) → Fits β w K ((execOp a.eval ⟨dst, .call ⟨.builtin b, ⟨as⟩, ⟨ts⟩⟩, type, pos, after, guard⟩).run P w) := by
        intro hf
        simp only [execOp, resolve, invoke, Sem.run_bind, Sem.run_pure, Result.andThen_ok, List.map_toArray]
        exact hf _
      have hvs : VsRel β.loc (as.map (iev env)) (as.map a.eval) := key _ fun x hx => ev (by simp [Op.operands, Call.operands, hx])
      refine fit (hrun fun cs => ?_)
      simp only at h
      cases b with
      | append =>
        obtain ⟨x, y, rfl⟩ : ∃ x y, as = [x, y] := by revert hc; rcases as with _ | ⟨x, _ | ⟨y, _ | _⟩⟩ <;> simp [okCall]
        obtain ⟨t, u, rfl⟩ : ∃ t u, ts = [t, u] := by revert hc; rcases ts with _ | ⟨x, _ | ⟨y, _ | _⟩⟩ <;> simp [okCall]
        simp only [icallB, List.map_cons, List.map_nil] at h
        split at h
        · rename_i e' hu
          exact Gives.fits (append_gives S hu (ev (x := x) (by simp [Op.operands, Call.operands])) (ev (x := y) (by simp [Op.operands, Call.operands])) h)
        · exact h.elim
      | copy =>
        obtain ⟨x, y, rfl⟩ : ∃ x y, as = [x, y] := by revert hc; rcases as with _ | ⟨x, _ | ⟨y, _ | _⟩⟩ <;> simp [okCall]
        obtain ⟨t, u, rfl⟩ : ∃ t u, ts = [t, u] := by revert hc; rcases ts with _ | ⟨x, _ | ⟨y, _ | _⟩⟩ <;> simp [okCall]
        simp only [icallB, List.map_cons, List.map_nil] at h
        split at h
        · exact Gives.fits (copy_gives S (ev (x := x) (by simp [Op.operands, Call.operands])) (ev (x := y) (by simp [Op.operands, Call.operands])) h)
        · exact h.elim
      | delete =>
        obtain ⟨x, y, rfl⟩ : ∃ x y, as = [x, y] := by revert hc; rcases as with _ | ⟨x, _ | ⟨y, _ | _⟩⟩ <;> simp [okCall]
        rcases ts with _ | ⟨t, ts⟩
        · exact h.elim
        · exact Fits.empty (mapDelete_sound S (K := fun H' => K (.tuple ⟨[]⟩) H') (ev (x := x) (by simp [Op.operands, Call.operands])) (ev (x := y) (by simp [Op.operands, Call.operands])) h)
      | len =>
        rcases ts with _ | ⟨t, ts⟩
        · exact h.elim
        rcases as with _ | ⟨x, as⟩
        · exact h.elim
        exact Gives.fits (PG.gives S (len_pg S (ev (x := x) (by simp [Op.operands, Call.operands])) h))
      | clear =>
        rcases ts with _ | ⟨t, ts⟩
        · exact h.elim
        rcases as with _ | ⟨x, as⟩
        · exact h.elim
        exact Fits.empty (clear_sound S (K := fun H' => K (.tuple ⟨[]⟩) H') (ev (x := x) (by simp [Op.operands, Call.operands])) h)
      | min => exact Gives.fits (PG.gives S (minMax_pg (mx := false) hvs (by cases ts <;> exact h)))
      | max => exact Gives.fits (PG.gives S (minMax_pg (mx := true) hvs (by cases ts <;> exact h)))
      | _ => exact (by revert h; rcases ts with _ | ⟨t, _ | ⟨u, ts⟩⟩ <;> rcases as with _ | ⟨x, _ | ⟨y, as⟩⟩ <;> exact fun h => h.elim)
  | panic x =>
    simp only [iop] at h
    have hx := ev (x := x) (by simp [Op.operands])
    split at h
    · rename_i t v hv
      rw [hv] at hx
      generalize hz : a.eval x = z at hx
      cases hx with
      | @iface _ _ v' hx' =>
        refine ⟨fun _ _ => trivial, ?_⟩
        rw [Oper.semAt_eq _ _ _ hnd]
        have : (execOp a.eval ⟨dst, .panic x, type, pos, after, guard⟩).run P w = .halt (.panic (.iface t v')) w := by
          simp only [execOp, hz, Instr.panic, goPanic]
          rfl
        rw [this, Oper.uponIn_panic]
        exact hP β H _ _ w (Step.refl _ _) S (.iface hx') h
    · exact h.elim
  | _ => exact (h : False).elim

end
end Ide

/- What does not act gives one value, and gives it again later. -/
set_option linter.unusedVariables false
set_option linter.unusedSimpArgs false
namespace Ide
open Go Go.RowKit
variable [Pol]

/-- The continuation is asked about one thing alone. -/
def Det {α : Type} (F : (α → Prop) → Prop) : Prop := ∀ K, F K → ∃ v, K v ∧ ∀ K', K' v → F K'

theorem Det.pure {α : Type} (x : α) : Det fun K => K x := fun K h => ⟨x, h, fun _ h => h⟩
theorem Det.no {α : Type} : Det fun (_ : α → Prop) => False := fun K h => h.elim
theorem Det.bind {α γ : Type} {F : (α → Prop) → Prop} {G : α → (γ → Prop) → Prop} (hF : Det F) (hG : ∀ a, Det (G a)) : Det fun K => F fun a => G a K := by
  intro K h
  obtain ⟨a, h1, h2⟩ := hF _ h
  obtain ⟨b, h3, h4⟩ := hG a K h1
  exact ⟨b, h3, fun K' h => h2 _ (h4 K' h)⟩
theorem Det.map {α γ : Type} {F : (α → Prop) → Prop} (hF : Det F) (g : α → γ) : Det fun K => F fun a => K (g a) := hF.bind fun a => .pure (g a)
theorem Det.and {α : Type} {F : (α → Prop) → Prop} {p : Prop} (hF : Det F) : Det fun K => p ∧ F K := by
  intro K h
  obtain ⟨a, h1, h2⟩ := hF _ h.2
  exact ⟨a, h1, fun K' h' => ⟨h.1, h2 K' h'⟩⟩
theorem Det.bif {α : Type} {F G : (α → Prop) → Prop} {b : Bool} (hF : Det F) (hG : Det G) : Det fun K => bif b then F K else G K := by
  cases b
  · exact hG
  · exact hF
theorem Det.ex {α γ : Type} {p : γ → Prop} {F : γ → (α → Prop) → Prop} (hF : ∀ a, Det (F a)) : Det fun K => ∃ x, p x ∧ F x K := by
  rintro K ⟨x, hx, h⟩
  obtain ⟨a, h1, h2⟩ := hF x _ h
  exact ⟨a, h1, fun K' h' => ⟨x, hx, h2 K' h'⟩⟩

/-- Two things in a row. -/
def c2 {α γ : Type} (F : (α → γ → Prop) → Prop) : (α × γ → Prop) → Prop := fun K => F fun a b => K (a, b)

section
variable {P : Program} {H : IHeap}

theorem det_pcase {a : Option Addr} : Det (c2 (pcase a)) := by
  unfold c2 pcase; split
  · exact .pure _
  · exact .no
theorem pcase_bind {a : Option Addr} {γ : Type} {G : Nat → Nat → (γ → Prop) → Prop} (hG : ∀ i o, Det (G i o)) : Det fun K => pcase a fun i o => G i o K := by
  unfold pcase; split
  · exact hG _ _
  · exact .no
theorem acase_bind {a : Option Addr} {γ : Type} {G : Nat → Nat → Nat → (γ → Prop) → Prop} (hG : ∀ i o q, Det (G i o q)) : Det fun K => acase a fun i o q => G i o q K := by
  unfold acase; split
  · exact hG _ _ _
  · exact .no
theorem bcase_det {α : Type} {F G : (α → Prop) → Prop} {b : Bool} (hF : Det F) (hG : Det G) : Det fun K => bcase b (F K) (G K) := by
  unfold bcase; cases b
  · exact hG
  · exact hF

theorem det_shaped {d : Option TypeDesc} {v : Value} : Det (shaped d v) := by
  unfold shaped
  split
  · unfold isI; split
    · exact .bif (.pure _) .no
    · exact .no
  · unfold isB; split <;> first | exact .pure _ | exact .no
  · unfold isS; split <;> first | exact .pure _ | exact .no
  · unfold isP; split <;> first | exact .pure _ | exact .no
  · unfold isL; split <;> first | exact .pure _ | exact .no
  · unfold isM; split <;> first | exact .pure _ | exact .no
  · unfold isA; split <;> first | exact .pure _ | exact .no
  · unfold isA; split <;> first | exact .pure _ | exact .no
  · exact .pure _

theorem det_fieldAddr {t : TypeId} {v : Value} {f : Nat} : Det (fieldAddr P t v f) := by
  unfold fieldAddr; split
  · exact pcase_bind fun i o => .pure _
  · exact .no

theorem det_cellOf {cs : List Value} {i : Nat} : Det (cellOf cs i) := by
  unfold cellOf; split
  · exact .pure _
  · exact .no

theorem det_extract {v : Value} {i : Nat} : Det (extractOf v i) := by
  unfold extractOf; split
  · exact det_cellOf
  · exact .no

theorem det_indexAddr {t : TypeId} {v i : Value} : Det (indexAddr P t v i) := by
  unfold indexAddr; split
  · refine .bif ?_ .no
    unfold ixS
    exact .and (.and (acase_bind fun b o q => .pure _))
  · refine .bif ?_ .no
    unfold ixA
    exact .and (.and (pcase_bind fun b o => .pure _))
  · exact .no

theorem det_intBin {op : BinOp} {k : IntKind} {a b : Int} : Det (intBin op k a b) := by
  unfold intBin; split <;> first | exact .pure _ | exact .and (.pure _) | exact .no

theorem det_strBin {op : BinOp} {a b : ByteArray} : Det (strBin op a b) := by
  unfold strBin; split <;> first | exact .pure _ | exact .no

theorem det_eqAgg {t : TypeId} {xs ys : List Value} : Det (eqAgg P t xs ys) := by
  unfold eqAgg; split
  · refine .bif .no ?_
    split
    · exact .pure _
    · exact .no
  · exact .no

theorem det_nilEq {d : Option TypeDesc} {x y : Value} : Det (nilEq d x y) := by
  unfold nilEq
  have hb : ∀ {a : Option Addr} {m : Nat}, Det (nilB a m) := fun {a m} => by
    unfold nilB
    split
    · exact .pure _
    · (rename_i a; cases (Nat.ble 1 m || Nat.beq (a.spot.getD 0 % 2) 1) with | true => exact .pure _ | false => exact .no)
  split <;> first | exact .pure _ | exact hb | exact .no

theorem det_binOp {op : BinOp} {t : TypeId} {x y : Value} : Det (binOp P op t x y) := by
  unfold binOp; split
  · split
    · exact .and (.pure _)
    · exact .and (.pure _)
    · exact .and det_intBin
  · exact det_strBin
  · split
    · split <;> first | exact .pure _ | exact .no
    · split <;> first | exact .pure _ | exact .no
    · exact .no
  · split
    · exact det_eqAgg.map _
    · exact det_eqAgg.map _
    · exact .no
  · split
    · exact det_nilEq.map _
    · exact det_nilEq.map _
    · exact .no

theorem det_unOp {op : UnOp} {x : Value} : Det (unOp op x) := by
  unfold unOp; split <;> first | exact .pure _ | exact .no

theorem det_convert {s d : TypeId} {x : Value} : Det (convert P s d x) := by
  unfold convert; split <;> first | exact .pure _ | exact .no

theorem cut_bind {a : Option Addr} {c sz : Nat} {l h : Int} {m : Option Int} {γ : Type} {G : Option Addr → Nat → Nat → (γ → Prop) → Prop} (hG : ∀ i o q, Det (G i o q)) : Det fun K => cut a c sz l h m fun i o q => G i o q K := by
  unfold cut; split
  · exact .and (.and (.and (hG _ _ _)))
  · split
    · exact .and (.and (.and (.and (hG _ _ _))))
    · exact .and (.and (.and (.and (.and (hG _ _ _)))))
  · exact .no

theorem det_bound {v : Option Value} {d : Int} : Det (bound v d) := by
  unfold bound; split <;> first | exact .pure _ | exact .no
theorem det_boundq {v : Option Value} : Det (bound? v) := by
  unfold bound?; split <;> first | exact .pure _ | exact .no

theorem det_slice {t : TypeId} {x : Value} {lo hi mx : Option Value} : Det (slice P t H x lo hi mx) := by
  unfold slice; split
  · refine .bif ?_ .no
    exact det_bound.bind fun l => det_bound.bind fun h => det_boundq.bind fun m => cut_bind fun a n c => .pure _
  · exact det_bound.bind fun l => det_bound.bind fun h => det_boundq.bind fun m => .and (.and (.and (.and (.pure _))))
  · refine .bif ?_ .no
    refine det_bound.bind fun l => det_bound.bind fun h => det_boundq.bind fun m => .and ?_
    unfold cutArr
    exact .and (.and (.and (pcase_bind fun i o => .and (.pure _))))
  · exact .no

theorem slice_heap {t : TypeId} {x : Value} {lo hi mx : Option Value} {K : Value → Prop} {H' : IHeap} (ha : ∀ n e, P.underlying t ≠ some (.array n e)) (h : slice P t H x lo hi mx K) : slice P t H' x lo hi mx K := by
  unfold slice at h ⊢
  split at h
  · simp only [*]
  · simp only [*]
  · rename_i hu; exact (ha _ _ hu).elim
  · exact h.elim

theorem det_fillL {place : Nat → Option (Nat × Nat)} : ∀ {ps : List (Nat × Value)} {cells : List Value}, Det (fillL place cells ps)
  | [], _ => .pure _
  | (i, v) :: rest, cells => by
    show Det fun K => fillL place cells ((i, v) :: rest) K
    simp only [fillL]; split
    · exact .and det_fillL
    · exact .no

theorem det_build {t : TypeId} {ps : List (Nat × Value)} : Det (build P t ps) := by
  unfold build; split
  · exact .bif (det_fillL.map _) .no
  · exact .bif (det_fillL.map _) .no
  · exact .no

theorem det_pickV {c : Bool} {a b : Value} : Det (pickV c a b) := by
  unfold pickV; split
  · exact .pure _
  · exact bcase_det (.pure _) (.pure _)

theorem det_minMaxGo {mx : Bool} {k : IntKind} : ∀ {vs : List Value} {a : Int}, Det (minMaxGo mx k a vs)
  | [], a => by show Det fun K => minMaxGo mx k a [] K; simp only [minMaxGo]; exact .pure _
  | v :: r, a => by
    show Det fun K => minMaxGo mx k a (v :: r) K
    cases v <;> simp only [minMaxGo] <;> first | exact .no | exact det_minMaxGo

theorem det_minMax {mx : Bool} {vs : List Value} : Det (minMax mx vs) := by
  unfold minMax; split
  · exact det_minMaxGo
  · exact .no

theorem det_mapLook {m : Option Nat} : Det (mapLook H m) := by
  unfold mapLook; split
  · exact .pure _
  · unfold mapAt
    rintro K ⟨es, c, h1, h2⟩
    exact ⟨es, h2, fun K' h' => ⟨es, c, h1, h'⟩⟩

theorem det_lookup {t : TypeId} {m k : Value} {ok : Bool} : Det (lookup P t H m k ok) := by
  unfold lookup; split
  · split
    · refine .and (det_mapLook.bind fun es => ?_)
      unfold lookE; split
      · exact det_shaped.map _
      · exact .pure _
      · exact .no
    · exact .no
  · exact .no

theorem det_lenOf {t : TypeId} {v : Value} : Det (lenOf P t H v) := by
  unfold lenOf; split
  · exact .pure _
  · exact .pure _
  · exact .pure _
  · split
    · exact .pure _
    · exact .no
  · exact det_mapLook.map _
  · exact .no

theorem det_load {t : TypeId} {i o : Nat} : Det (load P t H i o) := by
  unfold load; split
  · unfold ldI; exact .ex fun _ => .pure _
  · unfold ldB; exact .ex fun _ => .pure _
  · unfold ldS; exact .ex fun _ => .pure _
  · unfold ldP; exact .ex fun _ => .pure _
  · unfold ldL
    rintro K ⟨a, n, s, h1, h2⟩
    exact ⟨_, h2, fun K' h' => ⟨a, n, s, h1, h'⟩⟩
  · unfold ldM; exact .ex fun _ => .pure _
  · unfold ldA; exact .ex fun _ => .pure _
  · unfold ldA; exact .ex fun _ => .pure _
  · unfold ldV
    rintro K ⟨v, h1, h2, h3⟩
    exact ⟨v, h3, fun K' h' => ⟨v, h1, h2, h'⟩⟩
  · exact .no

end
end Ide
