/- The other small operations. -/
import Derived.Test.YtjjnlbceoajllaaGreatIdeK
set_option linter.unusedVariables false
set_option linter.unusedSimpArgs false
namespace Ide
open Go Go.RowKit

section
variable {P : Program} {β : Emb} {H : IHeap} {w : World}

theorem repeatL_all {p : Value → Bool} {zs : List Value} (h : zs.all p = true) : ∀ n, (repeatL n zs).all p = true
  | 0 => rfl
  | n + 1 => by rw [repeatL, List.all_append, h, repeatL_all h n]; rfl

theorem len_pg (S : Sim β H w) {t u : TypeId} {ts : List TypeId} {x x' : Value} {xs : List Value} {K : Value → Prop} (hx : VRel β.loc x x') (h : lenOf P t H x K) : PG β w P K (Builtin.len_ ⟨t :: ts⟩ u ⟨x' :: xs⟩) := by
  unfold lenOf at h
  split at h
  · rename_i s hu
    obtain rfl := hx.inv_str
    exact ⟨_, _, by simp [Builtin.len_, run_und hu, goInt], .int _ _, h⟩
  · rename_i e a n c hu
    rcases hx.inv_slice with ⟨_, rfl, _, rfl⟩ | ⟨_, _, _, _, _, _, _, _, rfl, _⟩ <;> exact ⟨_, _, by simp [Builtin.len_, run_und hu, goInt], .int _ _, h⟩
  · rename_i _ n e hu
    exact ⟨.int .i64 n, _, by cases x' <;> simp [Builtin.len_, run_und hu, goInt], .int _ _, h⟩
  · rename_i _ a hu
    split at h
    · rename_i n e hu'
      exact ⟨.int .i64 n, _, by cases x' <;> simp [Builtin.len_, run_und hu, run_und hu', goInt], .int _ _, h⟩
    · exact h.elim
  · rename_i k e r hu
    obtain ⟨es, es', h1, h2, h3⟩ := mapLook_sound (P := P) S hx h
    rcases h3 with ⟨rfl, rfl, rfl, rfl⟩ | ⟨b, clock, rfl, hb⟩
    · exact ⟨_, _, by simp [Builtin.len_, run_und hu, goInt], .int _ _, h2⟩
    · refine ⟨_, _, by simp only [Builtin.len_, List.getElem?_toArray, List.getElem?_cons_zero, Sem.run_bind, run_und hu, Result.andThen_ok, hb, Sem.run_pure, goInt]; rfl, ?_, h2⟩
      have := h1.length
      simp only [Array.length_toList] at this
      rw [this]
      exact .int _ _
  · exact h.elim

theorem minMaxGo_sound {mx : Bool} {k : IntKind} : ∀ {vs vs' : List Value} {a : Int} {K : Value → Prop}, VsRel β.loc vs vs' → minMaxGo mx k a vs K → ∃ r, (vs'.foldlM (match mx with | true => Builtin.max2 | false => Builtin.min2) (.int k a)).run P w = .ok (.int k r) w ∧ K (.int k r)
  | [], _, a, K, .nil, h => ⟨a, rfl, h⟩
  | v :: vs, _, a, K, .cons hv ht, h => by
    unfold minMaxGo at h
    split at h
    · contradiction
    · rename_i j b r e
      cases e
      obtain rfl := hv.inv_int
      obtain ⟨r', q1, q2⟩ := minMaxGo_sound ht h
      refine ⟨r', ?_, q2⟩
      rw [List.foldlM_cons]
      cases mx
      · simp only [Builtin.min2, Sem.run_bind, Sem.run_pure, Result.andThen_ok]
        exact q1
      · simp only [Builtin.max2, Sem.run_bind, Sem.run_pure, Result.andThen_ok]
        exact q1
    · exact h.elim

theorem minMax_pg {mx : Bool} {ts : Array TypeId} {u : TypeId} {vs vs' : List Value} {K : Value → Prop} (hv : VsRel β.loc vs vs') (h : minMax mx vs K) : PG β w P K ((match mx with | true => Builtin.max_ | false => Builtin.min_) ts u ⟨vs'⟩) := by
  unfold minMax at h
  split at h
  · rename_i k a r
    cases hv with
    | cons hv ht =>
      obtain rfl := hv.inv_int
      obtain ⟨q, q1, q2⟩ := minMaxGo_sound (P := P) (w := w) ht h
      refine ⟨.int k q, _, ?_, .int _ _, q2⟩
      cases mx
      · simpa [Builtin.min_] using q1
      · simpa [Builtin.max_] using q1
  · exact h.elim

theorem clear_sound (S : Sim β H w) {t u : TypeId} {ts : List TypeId} {x x' : Value} {xs : List Value} {K : IHeap → Prop} (hx : VRel β.loc x x') (h : clearOf P t H x K) :
    ∃ w' H', (Builtin.clear_ ⟨t :: ts⟩ u ⟨x' :: xs⟩).run P w = .ok (.tuple #[]) w' ∧ Step β w β w' ∧ Sim β H' w' ∧ K H' := by
  unfold clearOf at h
  split at h
  · rename_i k e hu
    rcases hx.inv_map with ⟨_, rfl⟩ | ⟨_, _, h', _⟩
    · exact ⟨w, H, by simp [Builtin.clear_, run_und hu], Step.refl _ _, S, h⟩
    · cases h'
  · rename_i k e r hu
    obtain ⟨es, clock, hr, h⟩ := h
    rcases hx.inv_map with ⟨h', _⟩ | ⟨id, l, h', hl, rfl⟩
    · cases h'
    · cases h'
      obtain ⟨es', g1, g2, g3⟩ := map_obj (P := P) S hl hr
      have hge := ((S.obj r l _ hl hr).block_lt rfl).2
      obtain ⟨St, Sm⟩ := S.setObj (x' := .map #[] clock) hl hr rfl g1 (o' := .map [] clock) (fun W hW => ⟨hge, _, hW, trivial⟩)
      refine ⟨_, _, ?_, St, Sm, h⟩
      simp only [Builtin.clear_, List.getElem?_toArray, List.getElem?_cons_zero, Sem.run_bind, run_und hu, Result.andThen_ok, g3, run_setObj g1 trivial, Sem.run_pure]
  · rename_i e a n c hu
    obtain ⟨hz0, hnz⟩ := bcase_sound h
    by_cases hn : n = 0
    · subst hn
      refine ⟨w, H, ?_, Step.refl _ _, S, hz0 rfl⟩
      rcases hx.inv_slice with ⟨_, _, _, rfl⟩ | ⟨_, _, _, _, _, _, _, _, rfl, _⟩ <;> simp [Builtin.clear_, run_und hu]
    · obtain ⟨i, o, q, rfl, hz⟩ := acase_sound (hnz (beq_false hn))
      clear hnz h
      unfold zeros at hz
      split at hz
      · rename_i zs hzs
        obtain ⟨hb, cs, h1, h2, h3⟩ := bif_sound hz
        simp only [Bool.and_eq_true] at hb
        obtain ⟨inf, z, hinf, hzz, hg, hcs, hcells, hgl⟩ := zeroOf_spec hzs
        rcases hx.inv_slice with ⟨h', _⟩ | ⟨id, off, q', L, o', C, h', hl, rfl, g1, g2, g3, g4, g5⟩
        · cases h'
        · cases h'
          obtain rfl := g4.resolve_right (by omega)
          obtain ⟨w', s1, s2, s3⟩ := S.storeCells P hl h1 h2 (VsRel.of_ground _ _ (repeatL_ground hgl n)) (repeatL_all hb.2 n)
          refine ⟨w', _, ?_, s2, s3, h3⟩
          have hzc : (Builtin.zeroCells z.cells n).toList = repeatL n zs := by
            have hpos : 0 < zs.length := by
              have := Nat.eq_of_beq_eq_true hb.1.1
              have := Nat.le_of_ble_eq_true hb.1.2
              omega
            have := range_zeros zs n (.inr hpos)
            unfold Builtin.zeroCells
            rw [hcells]
            have h2 : (⟨zs⟩ : Array Value).size = zs.length := by simp
            rw [h2] at this ⊢
            exact congrArg Array.toList this
          unfold Builtin.clear_
          simp only [List.getElem?_toArray, List.getElem?_cons_zero, Sem.run_bind, run_und hu, Result.andThen_ok]
          simp only [run_zero hinf hzz, Result.andThen_ok, hzc, s1, Sem.run_pure]
      · exact hz.elim
  · exact h.elim

theorem copy_gives (S : Sim β H w) {t u ty : TypeId} {x y x' y' : Value} {K : Value → IHeap → Prop} (hx : VRel β.loc x x') (hy : VRel β.loc y y') (h : copyOf P t H x y K) : Gives β w K ((Builtin.copy_ #[t, u] ty #[x', y']).run P w) := by
  unfold copyOf at h
  split at h
  · rename_i e a n c b m d hu
    obtain ⟨hb, h⟩ := bif_sound h
    obtain ⟨inf, hinf, hsz, _⟩ := info_of_ble hb
    rw [← hsz] at h
    obtain ⟨new, new', hn, hnr, h, hnl⟩ := sliceCells_sound (P := P) S (Nat.min_le_left m n) hy h
    obtain ⟨B, D, rfl⟩ : ∃ B D, y' = .slice B m D := by
      rcases hy.inv_slice with ⟨_, rfl, _, rfl⟩ | ⟨_, _, _, _, _, _, _, _, rfl, _⟩ <;> exact ⟨_, _, rfl⟩
    have hmin : Nat.min m n = min m n := rfl
    obtain ⟨hz, hnz⟩ := bcase_sound h
    have run : ∀ (A : Option Addr) (C : Nat) (r : Result Value), (A = none → Result.ok (.int .i64 (min m n : Nat)) w = r) → (∀ a0, A = some a0 → ((Go.storeCells a0 new').run P w).andThen (fun _ w' => Result.ok (.int .i64 (min m n : Nat)) w') = r) → (Builtin.copy_ #[t, u] ty #[.slice A n C, .slice B m D]).run P w = r := by
      intro A C r h1 h2
      unfold Builtin.copy_
      simp only [List.getElem?_toArray, List.getElem?_cons_zero, List.getElem?_cons_succ, Sem.run_bind, run_und hu, Result.andThen_ok, run_sz hinf, Builtin.lenOf, Sem.run_pure]
      rw [hmin, hn]
      simp only [Result.andThen_ok]
      cases A with
      | none => simpa [goInt] using h1 rfl
      | some a0 => simpa [goInt, Sem.run_bind] using h2 a0 rfl
    by_cases hmz : min m n = 0
    · have hk := hz (by rw [hmz]; rfl)
      have hnew : new' = [] := List.eq_nil_of_length_eq_zero (by rw [hnr.length, hnl, hmz]; simp)
      subst hnew
      obtain ⟨A, C, rfl⟩ : ∃ A C, x' = .slice A n C := by
        rcases hx.inv_slice with ⟨_, rfl, _, rfl⟩ | ⟨_, _, _, _, _, _, _, _, rfl, _⟩ <;> exact ⟨_, _, rfl⟩
      refine .same S (v' := .int .i64 0) (run A C _ (fun _ => by rw [hmz]; rfl) (fun a0 _ => by rw [hmz]; rfl)) (.int _ _) hk
    · obtain ⟨i, o, q, rfl, hone, cs, h1, h2, h3⟩ := acase_sound (hnz (beq_false hmz))
      rcases hx.inv_slice with ⟨h', _⟩ | ⟨id, off, q', L, o', C, h', hl, rfl, g1, g2, g3, g4, g5⟩
      · cases h'
      · cases h'
        obtain rfl := g4.resolve_right (by omega)
        obtain ⟨w', s1, s2, s3⟩ := S.storeCells P hl h1 h2 hnr hone
        exact ⟨.int .i64 (min m n : Nat), w', run _ _ _ (fun h => by cases h) (fun a0 ha => by cases ha; rw [s1]; rfl), β, _, _, s2, s3, .int _ _, h3⟩
  · exact h.elim

theorem extract_pg {v v' : Value} {i : Nat} {K : Value → Prop} (hv : VRel β.loc v v') (h : extractOf v i K) : PG β w P K (Instr.extract v' i) := by
  unfold extractOf at h
  split at h
  · obtain ⟨x, h1, h2⟩ := cellOf_sound h
    generalize hvv : Value.tuple ⟨_⟩ = V at hv
    cases hv <;> cases hvv
    · rename_i b hs
      obtain ⟨x', g1, g2⟩ := hs.get h1
      have : (⟨b⟩ : Array Value)[i]? = some x' := by simpa using g1
      exact ⟨x', x, by simp [Instr.extract, this], g2, h2⟩
  · exact h.elim

theorem pick_pg {c : Bool} {a b a' b' : Value} {K : Value → Prop} (ha : VRel β.loc a a') (hb : VRel β.loc b b') (h : pickV c a b K) : ∃ v, VRel β.loc v (if c then a' else b') ∧ K v := by
  unfold pickV at h
  split at h
  · obtain rfl := ha.inv_bool
    obtain rfl := hb.inv_bool
    refine ⟨_, ?_, h⟩
    cases c <;> exact .bool _
  · cases c
    · exact ⟨b, hb, h⟩
    · exact ⟨a, ha, h⟩

theorem typeAssert_pg {x x' : Value} {xt t : TypeId} {ok : Bool} {K : Value → Prop} (hx : VRel β.loc x x') (h : typeAssert P x t ok K) : PG β w P K (Instr.typeAssert x' xt t ok) := by
  unfold typeAssert at h
  split at h
  · exact h.elim
  · rename_i d z hn hd hz
    cases hx
    obtain ⟨i, hi, hzz, hg⟩ := zeroV_spec hz
    refine ⟨.tuple #[z, .bool false], _, ?_, .tuple (.cons (VRel.of_ground _ _ hg) (.cons (.bool _) .nil)), h⟩
    unfold Instr.typeAssert
    simp only [Sem.run_bind, run_und hd, Result.andThen_ok]
    cases d <;> first | (exact absurd rfl (hn _)) | simp [run_zero hi hzz]
  · rename_i d z u v hn hd hz
    cases hx with
    | iface hv =>
      rename_i v'
      obtain ⟨i, hi, hzz, hg⟩ := zeroV_spec hz
      obtain ⟨h1, h2⟩ := bcase_sound h
      by_cases e : u = t
      · subst e
        have hK := shaped_sound (K := fun v => K (.tuple ⟨[v, .bool true]⟩)) (h1 (by simp))
        refine ⟨.tuple #[v', .bool true], _, ?_, .tuple (.cons hv (.cons (.bool _) .nil)), hK⟩
        unfold Instr.typeAssert
        simp only [Sem.run_bind, run_und hd, Result.andThen_ok]
        cases d <;> first | (exact absurd rfl (hn _)) | simp
      · refine ⟨.tuple #[z, .bool false], _, ?_, .tuple (.cons (VRel.of_ground _ _ hg) (.cons (.bool _) .nil)), h2 (beq_false e)⟩
        unfold Instr.typeAssert
        simp only [Sem.run_bind, run_und hd, Result.andThen_ok]
        cases d <;> first | (exact absurd rfl (hn _)) | simp [e, run_zero hi hzz]
  · exact h.elim

theorem range_gives (S : Sim β H w) {t : TypeId} {x x' : Value} {K : Value → IHeap → Prop} (hx : VRel β.loc x x') (h : rangeOf P t H x K) : Gives β w K ((Instr.range t x').run P w) := by
  unfold rangeOf at h
  split at h
  · rename_i k e hu
    rcases hx.inv_map with ⟨_, rfl⟩ | ⟨_, _, h', _⟩
    · obtain ⟨St, Sm⟩ := (S.ghost (.mapIter none 0 #[] 0)).make (id := H.length) (o := .mapIter none 0 #[] 0) (by simp) S.unplaced (.mapIter none 0 #[] 0) ⟨w.heap.size, 0, 0, true⟩ rfl ⟨S.base_le, rfl, none, heap_push_self w _, rfl⟩
      refine ⟨.pointer (some ⟨w.heap.size, 0, none⟩), _, ?_, _, _, newPtr H, St, Sm, .ptr (Emb.with_self _ _ _), h⟩
      simp [Instr.range, run_und hu]
    · cases h'
  · rename_i k e r hu
    obtain ⟨es, clock, hr, h⟩ := h
    rcases hx.inv_map with ⟨h', _⟩ | ⟨id, l, h', hl, rfl⟩
    · cases h'
    · cases h'
      obtain ⟨es', g1, g2, g3⟩ := map_obj (P := P) S hl hr
      obtain ⟨St, Sm⟩ := (S.ghost (.mapIter (some r) clock #[] clock)).make (id := H.length) (o := .mapIter (some r) clock #[] clock) (by simp) S.unplaced (.mapIter (some l.block) clock #[] clock) ⟨w.heap.size, 0, 0, true⟩ rfl ⟨S.base_le, rfl, some l.block, heap_push_self w _, l, (Emb.with_le _ S.unplaced.1).2 _ _ hl, rfl⟩
      refine ⟨.pointer (some ⟨w.heap.size, 0, none⟩), _, ?_, _, _, newPtr H, St, Sm, .ptr (Emb.with_self _ _ _), h⟩
      simp [Instr.range, run_und hu, g3]
  · exact h.elim

def mRel (L : LMap) : Option Nat → Option Nat → Prop
  | none, m' => m' = none
  | some id, m' => ∃ lm, L id = some lm ∧ m' = some lm.block

theorem iter_obj (S : Sim β H w) {r : Nat} {l : Loc} {m : Option Nat} {since : Nat} {seen : Array Nat} {stepped : Nat} (hl : β.loc r = some l) (hr : H[r]? = some (.mapIter m since seen stepped)) :
    l.base = 0 ∧ ∃ m', w.heap[l.block]? = some (.mapIter m' since seen stepped) ∧ (Go.getObj l.block).run P w = .ok (.mapIter m' since seen stepped) w ∧ mRel β.loc m m' := by
  obtain ⟨_, h0, m', h1, h2⟩ := S.obj r l _ hl hr
  exact ⟨h0, m', h1, run_getObj h1 trivial, by cases m <;> exact h2⟩

theorem entry_pg (S : Sim β H w) {it it' : Value} {K : Value → Prop} (hi : VRel β.loc it it') (h : entryOf H it K) : PG β w P K (Instr.entry it') := by
  unfold entryOf at h
  split at h
  · rename_i r
    obtain ⟨id, since, seen, stepped, e, hr, es, clock, hm, he, rfl, x, hx, hK⟩ := h
    obtain ⟨_, l, hl, rfl⟩ := hi.inv_ptr
    obtain ⟨hb, m', _, g2, lm, g3, rfl⟩ := iter_obj (P := P) S hl hr
    obtain ⟨es', p1, p2, p3⟩ := map_obj (P := P) S g3 hm
    have key : ∀ {es xs : List MapEntry}, EsRel β.loc es xs → es.find? (·.born == e) = some x → ∃ y, xs.find? (·.born == e) = some y ∧ y.key = x.key ∧ ground x.key = true ∧ VRel β.loc x.val y.val := by
      intro es
      induction es with
      | nil => intro xs _ h; simp at h
      | cons a es ih =>
        intro xs hx h
        cases xs with
        | nil => exact hx.elim
        | cons b xs =>
          obtain ⟨h1, h2, h3, h4, h5⟩ := hx
          simp only [List.find?_cons] at h ⊢
          rw [h3]
          split at h
          · cases h
            exact ⟨b, rfl, h1, h2, h4⟩
          · exact ih h5 h
    obtain ⟨y, q1, q2, q3, q4⟩ := key p2 hx
    refine ⟨.tuple #[y.key, y.val], _, ?_, .tuple (.cons (by rw [q2]; exact VRel.of_ground _ _ q3) (.cons q4 .nil)), hK⟩
    have q1' : es'.find? (·.born == e) = some y := by rw [← Array.find?_toList]; exact q1
    unfold Instr.entry
    rw [hb]
    simp only [Nat.add_zero, Sem.run_bind, g2, Result.andThen_ok, he, p3, bne_self_eq_false, Bool.false_eq_true, if_false, Sem.run_ite, q1', Sem.run_pure]
  · exact h.elim

theorem next_gives (S : Sim β H w) {it it' : Value} {ty : TypeId} {K : Value → IHeap → Prop} (hi : VRel β.loc it it') (h : nextOf H it K) : Gives β w K ((Instr.next it' false ty).run P w) := by
  unfold nextOf at h
  split at h
  · rename_i r
    obtain ⟨m, since, seen, stepped, hr, h⟩ := h
    obtain ⟨_, l, hl, rfl⟩ := hi.inv_ptr
    obtain ⟨hb, m', g1, g2, g3⟩ := iter_obj (P := P) S hl hr
    cases m with
    | none =>
      have g3 : m' = none := g3
      subst g3
      refine .same S (v' := .tuple #[.bool false]) ?_ (.tuple (.cons (.bool _) .nil)) h
      unfold Instr.next
      rw [hb]
      simp only [Nat.add_zero, Sem.run_bind, g2, Result.andThen_ok, Sem.run_pure]
    | some id =>
      obtain ⟨lm, g3, rfl⟩ := g3
      obtain ⟨es, clock, hm, hno, hend, hstep⟩ := h
      obtain ⟨es', p1, p2, p3⟩ := map_obj (P := P) S g3 hm
      have hborn : ∀ {es xs : List MapEntry}, EsRel β.loc es xs → ∀ y ∈ xs, ∃ x ∈ es, y.key = x.key ∧ ground x.key = true ∧ y.born = x.born ∧ VRel β.loc x.val y.val := by
        intro es
        induction es with
        | nil => intro xs hx y hy; cases xs with | nil => simp at hy | cons _ _ => exact hx.elim
        | cons a es ih =>
          intro xs hx y hy
          cases xs with
          | nil => exact hx.elim
          | cons b xs =>
            obtain ⟨h1, h2, h3, h4, h5⟩ := hx
            rcases List.mem_cons.1 hy with rfl | hy
            · exact ⟨a, by simp, h1, h2, h3, h4⟩
            · obtain ⟨x, hx, hh⟩ := ih h5 y hy
              exact ⟨x, by simp [hx], hh⟩
      have hborn' : ∀ {es xs : List MapEntry}, EsRel β.loc es xs → ∀ x ∈ es, ∃ y ∈ xs, y.born = x.born := by
        intro es
        induction es with
        | nil => intro xs hx x hx2; simp at hx2
        | cons a es ih =>
          intro xs hx x hx2
          cases xs with
          | nil => exact hx.elim
          | cons b xs =>
            obtain ⟨h1, h2, h3, h4, h5⟩ := hx
            rcases List.mem_cons.1 hx2 with rfl | hx2
            · exact ⟨b, by simp, h3⟩
            · obtain ⟨y, hy, hh⟩ := ih h5 x hx2
              exact ⟨y, by simp [hy], hh⟩
      have hguard : (!seen.isEmpty && !es'.isEmpty && es'.all (fun e => decide (e.born ≥ stepped))) = false := by
        rcases hno with rfl | rfl | hno
        · simp
        · have := p2.length
          simp at this
          simp [this]
        · cases hall : es'.all (fun e => decide (e.born ≥ stepped)) with
          | false => simp
          | true =>
            exfalso
            have : es.all (fun e => decide (e.born ≥ stepped)) = true := by
              rw [List.all_eq_true]
              intro x hx
              obtain ⟨y, hy, hyb⟩ := hborn' p2 x hx
              have := Array.all_eq_true_iff_forall_mem.1 hall y (by simpa using hy)
              rw [← hyb]
              exact this
            rw [this] at hno
            cases hno
      -- the candidates
      let left := es'.filter fun e => !seen.contains e.born
      let old := left.filter fun e => decide (e.born < since)
      let new := left.filter fun e => decide (e.born ≥ since)
      let cand : Array (Option MapEntry) := (if old.isEmpty then #[none] else #[]) ++ (old ++ new).map some
      have hcand : 0 < cand.size := by
        show 0 < ((if old.isEmpty then #[none] else #[]) ++ (old ++ new).map some : Array (Option MapEntry)).size
        by_cases ho : old.isEmpty
        · rw [if_pos ho]; simp; omega
        · rw [if_neg ho]
          have : 0 < old.size := by
            rcases Nat.eq_zero_or_pos old.size with h | h
            · exact absurd (by simpa using h) ho
            · exact h
          simp; omega
      have hmem : ∀ (k : Nat) (o : Option MapEntry), cand[k]? = some o → (o = none ∧ old.isEmpty = true) ∨ ∃ y, o = some y ∧ y ∈ es' ∧ seen.contains y.born = false := by
        intro k o hk
        have hin : o ∈ cand := Array.mem_of_getElem? hk
        rcases Array.mem_append.1 hin with hin | hin
        · by_cases ho : old.isEmpty
          · rw [if_pos ho] at hin
            simp at hin
            exact .inl ⟨hin, ho⟩
          · rw [if_neg ho] at hin
            simp at hin
        · obtain ⟨y, hy, rfl⟩ := Array.mem_map.1 hin
          right
          refine ⟨y, rfl, ?_⟩
          have hl : y ∈ left := by
            rcases Array.mem_append.1 hy with hy | hy
            · exact (Array.mem_filter.1 hy).1
            · exact (Array.mem_filter.1 hy).1
          have := Array.mem_filter.1 hl
          exact ⟨this.1, by simpa using this.2⟩
      have hchoose : ∃ k w1, (choose (.mapNext cand.size)).run P w = .ok k w1 ∧ k < cand.size ∧ w1.heap = w.heap ∧ Below β.w0.heap.size w w1 := by
        rw [Go.run_choose]
        by_cases hf : (Question.mapNext cand.size).forced = true
        · rw [if_pos hf]
          exact ⟨0, w, rfl, hcand, rfl, Below.refl _ _⟩
        · rw [if_neg hf]
          exact ⟨_, _, rfl, Nat.mod_lt _ hcand, rfl, Below.drew (Below.refl _ _)⟩
      obtain ⟨k, w1, hch, hklt, hw1, hbel⟩ := hchoose
      have S1 : Sim β H w1 := S.congr hw1 hbel
      have St1 : Step β w β w1 := Step.of_heap hw1
      have hrun : ∀ (r : Result Value), (∀ o, cand[k]? = some o → (match o with
            | some e => (Go.setObj l.block (.mapIter (some lm.block) since (seen.push e.born) clock) >>= fun _ => (pure (.tuple #[.bool true, e.key, e.val]) : Sem Value)).run P w1 = r
            | none => (pure (.tuple #[.bool false]) : Sem Value).run P w1 = r)) →
          (Instr.next (.pointer (some ⟨l.block, l.base + 0, none⟩)) false ty).run P w = r := by
        intro r hr
        obtain ⟨o, ho⟩ : ∃ o, cand[k]? = some o := ⟨cand[k], Array.getElem?_eq_getElem hklt⟩
        have := hr o ho
        unfold Instr.next
        rw [hb]
        simp only [Nat.add_zero, Sem.run_bind, g2, Result.andThen_ok, p3, Sem.run_ite]
        rw [if_neg (by rw [hguard]; simp)]
        have hch' : (choose (Question.mapNext ((if old.isEmpty = true then #[none] else #[]) ++ (old ++ new).map some : Array (Option MapEntry)).size)).run P w = .ok k w1 := hch
        rw [hch']
        simp only [Result.andThen_ok]
        have ho' : ((if old.isEmpty = true then #[none] else #[]) ++ (old ++ new).map some : Array (Option MapEntry))[k]? = some o := ho
        rw [ho']
        cases o with
        | none => exact this
        | some e => exact this
      have hchoice : cand[k]? = some cand[k] := Array.getElem?_eq_getElem hklt
      rcases hmem k _ hchoice with ⟨hn, hold⟩ | ⟨y, hy, hy1, hy2⟩
      · rw [hn] at hchoice
        have hempty : (es.filter fun e => !seen.contains e.born && decide (e.born < since)) = [] := by
          rw [List.filter_eq_nil_iff]
          intro x hx hc
          obtain ⟨y, hy, hyb⟩ := hborn' p2 x hx
          simp only [Bool.and_eq_true] at hc
          have hm1 : y ∈ left := Array.mem_filter.2 ⟨by simpa using hy, by rw [hyb]; exact hc.1⟩
          have hm2 : y ∈ old := Array.mem_filter.2 ⟨hm1, by rw [hyb]; exact hc.2⟩
          have : old = #[] := by simpa using hold
          rw [this] at hm2
          simp at hm2
        refine ⟨.tuple #[.bool false], w1, hrun _ (fun o ho => ?_), β, H, _, St1, S1, .tuple (.cons (.bool _) .nil), hend hempty⟩
        rw [hchoice] at ho
        cases ho
        rfl
      · rw [hy] at hchoice
        obtain ⟨x, hx1, hx2, hx3, hx4, hx5⟩ := hborn p2 y (by simpa using hy1)
        have hK := hstep x hx1 (by rw [← hx4]; exact hy2)
        have hge := ((S1.obj r l _ hl hr).block_lt rfl).2
        obtain ⟨St, Sm⟩ := S1.setObj (x' := .mapIter (some lm.block) since (seen.push y.born) clock) hl hr rfl (by rw [hw1]; exact g1) (o' := .mapIter (some id) since (seen.push x.born) clock) (fun W hW => ⟨hge, hb, some lm.block, by rw [hx4] at hW; exact hW, lm, g3, rfl⟩)
        refine ⟨.tuple #[.bool true, y.key, y.val], _, hrun _ (fun o ho => ?_), β, _, _, St1.trans St, Sm, .tuple (.cons (.bool _) (.cons (by rw [hx2]; exact VRel.of_ground _ _ hx3) (.cons hx5 .nil))), hK⟩
        rw [hchoice] at ho
        cases ho
        show ((Go.setObj l.block (Obj.mapIter (some lm.block) since (seen.push y.born) clock) >>= fun _ => (pure (.tuple #[.bool true, y.key, y.val]) : Sem Value)).run P w1) = _
        rw [Sem.run_bind, run_setObj (show w1.heap[l.block]? = _ by rw [hw1]; exact g1) trivial]
        rfl
  · exact h.elim

end
end Ide
