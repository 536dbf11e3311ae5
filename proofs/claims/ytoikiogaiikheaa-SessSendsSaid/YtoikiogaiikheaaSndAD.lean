/- The operations that make memory, cut it, and write it. -/
import Derived.Test.YtoikiogaiikheaaSndAC
import Derived.IntWalk
set_option linter.unusedSectionVars false
set_option linter.unusedVariables false
set_option linter.unusedSimpArgs false
namespace Ide
open Go Go.RowKit
variable [Pol]

theorem repeatL_length (zs : List Value) : ∀ n, (repeatL n zs).length = n * zs.length
  | 0 => by simp [repeatL]
  | n + 1 => by simp [repeatL, repeatL_length zs n, Nat.succ_mul]; omega

theorem repeatL_get (zs : List Value) : ∀ (n i : Nat), i < n * zs.length → (repeatL n zs)[i]? = zs[i % zs.length]?
  | 0, i, h => by simp at h
  | n + 1, i, h => by
    rw [repeatL]
    by_cases hi : i < zs.length
    · rw [List.getElem?_append_left hi, Nat.mod_eq_of_lt hi]
    · have hz : 0 < zs.length := by
        rcases Nat.eq_zero_or_pos zs.length with h0 | h0
        · rw [h0] at h; simp at h
        · exact h0
      have hs : (n + 1) * zs.length = n * zs.length + zs.length := Nat.succ_mul _ _
      rw [List.getElem?_append_right (by omega), repeatL_get zs n (i - zs.length) (by omega)]
      congr 1
      exact (Nat.mod_eq_sub_mod (by omega)).symm

/-- The machine's zeroed row. -/
theorem range_zeros (zs : List Value) (n : Nat) (hz : n * zs.length = 0 ∨ 0 < zs.length) : (Array.range (n * zs.length)).map (fun x => (⟨zs⟩ : Array Value)[x % (⟨zs⟩ : Array Value).size]!) = ⟨repeatL n zs⟩ := by
  apply Array.ext'
  apply List.ext_getElem?
  intro i
  by_cases hi : i < n * zs.length
  · have hp : 0 < zs.length := by
      rcases hz with h | h
      · omega
      · exact h
    have hm : i % zs.length < zs.length := Nat.mod_lt _ hp
    rw [repeatL_get zs n i hi]
    simp [hi, hm]
  · have h1 : (repeatL n zs)[i]? = none := List.getElem?_eq_none (by rw [repeatL_length]; omega)
    rw [h1]
    simp; omega

theorem groundL_append : ∀ (a b : List Value), ground.groundL (a ++ b) = (ground.groundL a && ground.groundL b)
  | [], b => by simp [ground.groundL]
  | v :: a, b => by simp [ground.groundL, groundL_append a b, Bool.and_assoc]

theorem repeatL_ground {zs : List Value} (h : ground.groundL zs = true) : ∀ n, ground.groundL (repeatL n zs) = true
  | 0 => rfl
  | n + 1 => by rw [repeatL, groundL_append, h, repeatL_ground h n]; rfl

/-! ### parts laid into cells -/
theorem foldl_splice (vs : List Value) : ∀ (off k : Nat) (arr : Array Value), off + k + vs.length ≤ arr.size →
    ((vs.zipIdx k).foldl (fun (cs : Array Value) (p : Value × Nat) => cs.setIfInBounds (off + p.2) p.1) arr).toList = splice arr.toList (off + k) vs := by
  induction vs with
  | nil => intro off k arr _; simp [splice]
  | cons v vs ih =>
    intro off k arr h
    simp only [List.length_cons] at h
    rw [List.zipIdx_cons, List.foldl_cons, ih off (k + 1) _ (by simp; omega)]
    apply List.ext_getElem?
    intro i
    rw [splice_get (by simp; omega), splice_get (by simp; omega)]
    simp only [Array.toList_setIfInBounds, List.getElem?_set, List.length_cons]
    by_cases c1 : i < off + k
    · rw [if_pos (by omega), if_neg (by omega), if_pos c1]
    · rw [if_neg (c := i < off + k) c1]
      by_cases c2 : i = off + k
      · subst c2
        rw [if_pos (by omega), if_pos rfl, if_pos (by simp; omega), if_pos (by omega)]
        simp
      · rw [if_neg (by omega)]
        by_cases c3 : i < off + (k + 1) + vs.length
        · rw [if_pos c3, if_pos (by omega)]
          rw [show i - (off + k) = (i - (off + (k + 1))) + 1 by omega, List.getElem?_cons_succ]
        · rw [if_neg c3, if_neg (by omega), if_neg (by omega)]

theorem fill_sound {L : LMap} {place : Nat → Option (Nat × Nat)} : ∀ {ps ps' : List (Nat × Value)} {cs cs' : List Value} {K : List Value → Prop}, VsRel L cs cs' → ps'.length = ps.length →
    (∀ (i : Nat) (p p' : Nat × Value), ps[i]? = some p → ps'[i]? = some p' → p'.1 = p.1 ∧ VRel L p.2 p'.2) → fillL place cs ps K → ∃ rs rs', Instr.fill place ⟨cs'⟩ ps' = some ⟨rs'⟩ ∧ VsRel L rs rs' ∧ K rs
  | [], [], cs, cs', K, hc, _, _, h => ⟨cs, cs', rfl, hc, h⟩
  | [], _ :: _, _, _, _, _, hl, _, _ => by simp at hl
  | _ :: _, [], _, _, _, _, hl, _, _ => by simp at hl
  | (i, v) :: ps, (i', v') :: ps', cs, cs', K, hc, hl, hp, h => by
    obtain ⟨e, hv⟩ := hp 0 (i, v) (i', v') rfl rfl
    simp only at e
    subst e
    simp only [fillL] at h
    split at h
    · rename_i off sz vs hpl hvs
      obtain ⟨⟨h1, h2⟩, h3⟩ := h
      obtain ⟨vs', g1, g2⟩ := hv.vcells hvs
      have hvl := g2.length
      have hcl := hc.length
      have hfold : ((⟨vs'⟩ : Array Value).zipIdx.foldl (fun (cs : Array Value) (p : Value × Nat) => cs.setIfInBounds (off + p.2) p.1) ⟨cs'⟩) = ⟨splice cs' off vs'⟩ := by
        apply Array.ext'
        rw [← Array.foldl_toList]
        have := foldl_splice vs' off 0 ⟨cs'⟩ (by simp; omega)
        simpa using this
      obtain ⟨rs, rs', q1, q2, q3⟩ := fill_sound (place := place) (hc.splice g2 off) (by simpa using hl) (fun j p p' a b => hp (j + 1) p p' (by simpa using a) (by simpa using b)) h3
      refine ⟨rs, rs', ?_, q2, q3⟩
      simp only [Instr.fill, hpl, g1]
      rw [if_neg (by simp; omega)]
      rw [hfold]
      exact q1
    · exact h.elim

theorem ps_rel {L : LMap} {env : Env} {a : Act} {ps : List (Nat × Operand)} (h : ∀ p ∈ ps, VRel L (iev env p.2) (a.eval p.2)) :
    ∀ (i : Nat) (p p' : Nat × Value), (ps.map fun p => (p.1, iev env p.2))[i]? = some p → (ps.map fun p => (p.1, a.eval p.2))[i]? = some p' → p'.1 = p.1 ∧ VRel L p.2 p'.2 := by
  intro i p p' h1 h2
  simp only [List.getElem?_map, Option.map_eq_some_iff] at h1 h2
  obtain ⟨x, hx, rfl⟩ := h1
  obtain ⟨y, hy, rfl⟩ := h2
  rw [hx] at hy
  cases hy
  exact ⟨rfl, h x (List.mem_of_getElem? hx)⟩

section
variable {P : Program} {β : Emb} {H : IHeap} {w : World}

theorem load_gives (S : Sim β H w) {t : TypeId} {a a' : Value} {K : Value → IHeap → Prop} (ha : VRel β.loc a a') (h : ptrAt a fun i f => load P t H i f fun v => K v H) : Gives β w K ((Instr.loadAt t a').run P w) := by
  unfold ptrAt at h
  split at h
  · obtain ⟨i, o, rfl, hk⟩ := pcase_sound h
    obtain ⟨_, l, hl, rfl⟩ := ha.inv_ptr
    obtain ⟨v, v', h1, h2, h3, _⟩ := load_sound S hl hk
    refine .same S ?_ h2 h3
    unfold Instr.loadAt
    simp [Instr.sureAddr, h1]
  · exact h.elim

theorem store_sound (S : Sim β H w) {t : TypeId} {a a' v v' : Value} {K : IHeap → Prop} (ha : VRel β.loc a a') (hv : VRel β.loc v v') (h : ptrAt a fun i f => stV P t H i f v K) :
    ∃ w' H', (Instr.storeAt t a' v').run P w = .ok () w' ∧ Step β w β w' ∧ Sim β H' w' ∧ K H' := by
  unfold ptrAt at h
  split at h
  · obtain ⟨i, o, rfl, hk⟩ := pcase_sound h
    obtain ⟨_, l, hl, rfl⟩ := ha.inv_ptr
    unfold stV at hk
    split at hk
    · rename_i vs hvs
      obtain ⟨hble, ⟨h1, h2⟩, cs, h3, h4, h5⟩ := bif_sound hk
      obtain ⟨inf, hi, hs, _⟩ := info_of_ble hble
      obtain ⟨vs', g1, g2⟩ := hv.vcells hvs
      obtain ⟨w', q1, q2, q3⟩ := S.storeCells P hl h3 h4 g2 h2
      refine ⟨w', _, ?_, q2, q3, h5⟩
      unfold Instr.storeAt storeVar
      have := g2.length
      simp [Instr.sureAddr, run_sz hi, g1, hs, this, h1, q1]
    · exact hk.elim
  · exact h.elim

/-- A new object, numbered by the heap G. -/
def MakesAt (β : Emb) (w : World) (P : Program) (G : IHeap) (K : Value → IHeap → Prop) (s : Sem Value) : Prop :=
  ∃ (v : Value) (o : IObj) (v' : Value) (x : Obj) (l : Loc), K v (newO G o) ∧ s.run P w = .ok v' { w with heap := w.heap.push x } ∧ l.block = w.heap.size ∧
    ∀ L : LMap, L (Pol.pos G) = some l → β.loc.le L → VRel L v v' ∧ (β.w0.heap.size ≤ w.heap.size → ORel L β.w0 { w with heap := w.heap.push x } l o)

theorem MakesAt.gives {K : Value → IHeap → Prop} {s : Sem Value} (S : Sim β H w) (h : MakesAt β w P H K s) : Gives β w K (s.run P w) := by
  obtain ⟨v, o, v', x, l, hk, hrun, hl, hL⟩ := h
  obtain ⟨a1, a2⟩ := hL (β.with (Pol.pos H) l).loc (Emb.with_self _ _ _) (Emb.with_le _ S.unplaced.1).2
  obtain ⟨St, Sm⟩ := (S.ghost o).make (id := Pol.pos H) (o := o) (newO_self H o) S.unplaced x l hl (a2 S.base_le)
  exact ⟨v', _, hrun, _, _, v, St, Sm, a1, hk⟩

theorem MakesAt.cells {G : IHeap} {K : Value → IHeap → Prop} {s : Sem Value} {cs cs' : List Value} (T : TypeId) {v v' : Value} (hc : VsRel β.loc cs cs') (hrun : s.run P w = .ok v' { w with heap := w.heap.push (.cells ⟨cs'⟩ T) })
    (hv : ∀ L : LMap, L (Pol.pos G) = some ⟨w.heap.size, 0, cs'.length, true⟩ → VRel L v v') (hk : K v (newO G (.cells cs true))) : MakesAt β w P G K s :=
  ⟨v, _, v', _, _, hk, hrun, rfl, fun L hL hle => ⟨hv L hL, fun hb => ⟨rfl, hb, ⟨cs'⟩, T, cs', heap_push_self w _, by simp, by simp [hc.length], hc.mono hle, fun i v h => by simpa using h⟩⟩⟩

theorem box_makes {t : TypeId} {v v' : Value} {K : Value → IHeap → Prop} (hv : VRel β.loc v v') (h : box v H K) : MakesAt β w P H K (Instr.box t v') := by
  have key : ∀ cs, vcells v = some cs → K (newPtr H) (newO H (.cells cs true)) → MakesAt β w P H K (Instr.box t v') := by
    intro cs hcs hk
    obtain ⟨cs', g1, g2⟩ := hv.vcells hcs
    refine .cells t (v' := .pointer (some ⟨w.heap.size, 0, none⟩)) g2 ?_ (fun L q1 => .ptr q1) hk
    unfold Instr.box newVar newRow
    rw [g1]
    rfl
  unfold box at h
  split at h
  · exact key _ rfl h
  · exact h.elim
  · exact h.elim
  · rename_i h1 h2 h3
    refine key [v] ?_ h
    unfold vcells
    split
    · exact absurd rfl (h1 _)
    · exact absurd rfl (h2 _)
    · exact absurd rfl (h3 _)
    · rfl

theorem box_gives (S : Sim β H w) {t : TypeId} {v v' : Value} {K : Value → IHeap → Prop} (hv : VRel β.loc v v') (h : box v H K) : Gives β w K ((Instr.box t v').run P w) := (box_makes hv h).gives S

theorem alloc_makes {t : TypeId} {K : Value → IHeap → Prop} (h : alloc P t H K) : MakesAt β w P H K (Instr.alloc t true (.tuple #[])) := by
  unfold alloc at h
  split at h
  · rename_i cs hz
    obtain ⟨i, z, hi, hzz, hg, hcs, hcells, hgl⟩ := zeroOf_spec hz
    refine .cells t (v' := .pointer (some ⟨w.heap.size, 0, none⟩)) (VsRel.of_ground β.loc cs hgl) ?_ (fun L q1 => .ptr q1) h
    unfold Instr.alloc newVar newRow
    simp [run_zero hi hzz, hcells]
  · exact h.elim

theorem alloc_gives (S : Sim β H w) {t : TypeId} {K : Value → IHeap → Prop} (h : alloc P t H K) : Gives β w K ((Instr.alloc t true (.tuple #[])).run P w) := (alloc_makes h).gives S

theorem run_places {fs : List Field} (h : fs.all (fun f => (P.info? f.type).isSome) = true) : ((⟨fs⟩ : Array Field).mapM fun f => do pure (f.offset, ← Go.sizeOf f.type) : Sem (Array (Nat × Nat))).run P w = .ok ⟨fieldPlaces P fs⟩ w := by
  rw [Array.mapM_eq_mapM_toList]
  have key : ∀ fs : List Field, fs.all (fun f => (P.info? f.type).isSome) = true → (fs.mapM fun f => do pure (f.offset, ← Go.sizeOf f.type) : Sem (List (Nat × Nat))).run P w = .ok (fieldPlaces P fs) w := by
    intro fs
    induction fs with
    | nil => intro _; rfl
    | cons f fs ih =>
      intro h
      have h' : (P.info? f.type).isSome = true ∧ fs.all (fun f => (P.info? f.type).isSome) = true := by simpa using h
      obtain ⟨i, hi⟩ := Option.isSome_iff_exists.1 h'.1
      rw [List.mapM_cons]
      simp only [Sem.run_bind, run_sz hi, Result.andThen_ok, Sem.run_pure, ih h'.2]
      simp [fieldPlaces, ssz_of hi]
  simp only [Sem.run_map, key fs h, Result.andThen_ok]

theorem build_pg {env : Env} {a : Act} {t : TypeId} {ps : Array (Nat × Operand)} (hp : ∀ p ∈ ps.toList, VRel β.loc (iev env p.2) (a.eval p.2)) {K : Value → Prop}
    (h : build P t (ps.toList.map fun p => (p.1, iev env p.2)) K) : PG β w P K (Instr.build t (ps.map fun (i, x) => (i, a.eval x))) := by
  have hps : (ps.map fun (i, x) => (i, a.eval x)).toList = ps.toList.map fun p => (p.1, a.eval p.2) := by simp
  unfold build at h
  split at h
  · rename_i fs zs hu hz
    obtain ⟨hall, h⟩ := bif_sound h
    obtain ⟨i, z, hi, hzz, hg, hcs, hcells, hgl⟩ := zeroOf_spec hz
    obtain ⟨rs, rs', g1, g2, g3⟩ := fill_sound (VsRel.of_ground β.loc zs hgl) (by simp) (ps_rel hp) h
    refine ⟨.agg ⟨rs'⟩, .agg ⟨rs⟩, ?_, .agg g2, g3⟩
    unfold Instr.build
    simp only [Sem.run_bind, run_zero hi hzz, Result.andThen_ok, run_und hu, run_places hall, hps, hcells]
    simp [g1]
  · rename_i n e zs hu hz
    obtain ⟨hinf, h⟩ := bif_sound h
    obtain ⟨inf, hinf⟩ := Option.isSome_iff_exists.1 hinf
    obtain ⟨i, z, hi, hzz, hg, hcs, hcells, hgl⟩ := zeroOf_spec hz
    obtain ⟨rs, rs', g1, g2, g3⟩ := fill_sound (VsRel.of_ground β.loc zs hgl) (by simp) (ps_rel hp) h
    refine ⟨.agg ⟨rs'⟩, .agg ⟨rs⟩, ?_, .agg g2, g3⟩
    unfold Instr.build
    rw [ssz_of hinf] at g1
    simp only [Sem.run_bind, run_zero hi hzz, Result.andThen_ok, run_und hu, run_sz hinf, hps, hcells]
    simp [g1]
  · exact h.elim

theorem buildSlice_makes {env : Env} {a : Act} {t : TypeId} {len : Nat} {ps : Array (Nat × Operand)} (hp : ∀ p ∈ ps.toList, VRel β.loc (iev env p.2) (a.eval p.2)) {K : Value → IHeap → Prop}
    (h : buildSlice P t len (ps.toList.map fun p => (p.1, iev env p.2)) H K) : MakesAt β w P H K (Instr.buildSlice t len (ps.map fun (i, x) => (i, a.eval x))) := by
  have hps : (ps.map fun (i, x) => (i, a.eval x)).toList = ps.toList.map fun p => (p.1, a.eval p.2) := by simp
  unfold buildSlice at h
  split at h
  · rename_i e hu
    split at h
    · rename_i zs hz
      obtain ⟨hb, h⟩ := bif_sound h
      simp only [Bool.and_eq_true] at hb
      obtain ⟨⟨h1, h2⟩, h3⟩ := hb
      have h1 := Nat.eq_of_beq_eq_true h1
      have h3 := Nat.le_of_ble_eq_true h3
      obtain ⟨inf, hinf, hsz, h4⟩ := info_of_ble h2
      obtain ⟨i, z, hi, hzz, hg, hcs, hcells, hgl⟩ := zeroOf_spec hz
      obtain ⟨rs, rs', g1, g2, g3⟩ := fill_sound (VsRel.of_ground β.loc _ (repeatL_ground hgl len)) (by simp) (ps_rel hp) h
      have hrl : rs.length = len * ssz P e := by
        have key : ∀ {ps : List (Nat × Value)} {cs : List Value} {K : List Value → Prop} {place : Nat → Option (Nat × Nat)}, fillL place cs ps K → fillL place cs ps (fun r => r.length = cs.length ∧ K r) := by
          intro ps
          induction ps with
          | nil => intro cs K place h; exact ⟨rfl, h⟩
          | cons p ps ih =>
            intro cs K place h
            obtain ⟨i, v⟩ := p
            simp only [fillL] at h ⊢
            split at h
            · rename_i off sz vs a1 a2
              have := ih h.2
              simp only [splice_length h.1.2] at this
              exact ⟨h.1, this⟩
            · exact h.elim
        obtain ⟨rs2, rs2', q1, q2, q3, q4⟩ := fill_sound (VsRel.of_ground β.loc _ (repeatL_ground hgl len)) (by simp) (ps_rel hp) (key h)
        rw [g1] at q1
        cases q1
        have := q2.length
        have h5 := g2.length
        rw [← h5, this, q3, repeatL_length, h1]
      refine .cells e (v' := .slice (some ⟨w.heap.size, 0, none⟩) len len) g2 ?_ (fun L q1 => .slice q1 (Nat.le_refl _) (Nat.le_refl _) (fun _ => rfl) (.inl rfl) (fun _ => ?_)) g3
      · unfold Instr.buildSlice
        rw [hinf] at hi
        cases hi
        have hmap : (Array.range (len * inf.size)).map (fun x => z.cells[x % z.cells.size]!) = ⟨repeatL len zs⟩ := by
          rw [hcells, hsz, ← h1]
          exact range_zeros zs len (.inr (by omega))
        rw [← hsz] at g1
        by_cases hz0 : len * inf.size = 0
        · have hl0 : len = 0 := by
            rcases Nat.mul_eq_zero.1 hz0 with h | h
            · exact h
            · omega
          subst hl0
          simp only [Sem.run_bind, run_und hu, Result.andThen_ok, run_sz hinf, Sem.run_ite, hps]
          rw [if_neg (by omega), if_pos (by omega)]
          simp only [Sem.run_pure, Result.andThen_ok]
          rw [show ((Array.range (0 * inf.size)).map (fun x => (#[] : Array Value)[x % (#[] : Array Value).size]!)) = ⟨repeatL 0 zs⟩ from by simp [repeatL]]
          simp only [g1]
          simp [newRow]
        · simp only [Sem.run_bind, run_und hu, Result.andThen_ok, run_sz hinf, Sem.run_ite, hps]
          rw [if_neg (by rw [hsz]; omega), if_neg hz0]
          simp only [Sem.run_bind, run_zero hinf hzz, Result.andThen_ok, Sem.run_pure, hmap, g1]
          simp [newRow]
      · have h5 := g2.length
        simp only
        rw [h5, hrl]
        have : (2 * ssz P e + 1) / 2 = ssz P e := by omega
        rw [this]
        omega
    · exact h.elim
  · exact h.elim

theorem buildSlice_gives (S : Sim β H w) {env : Env} {a : Act} {t : TypeId} {len : Nat} {ps : Array (Nat × Operand)} (hp : ∀ p ∈ ps.toList, VRel β.loc (iev env p.2) (a.eval p.2)) {K : Value → IHeap → Prop}
    (h : buildSlice P t len (ps.toList.map fun p => (p.1, iev env p.2)) H K) : Gives β w K ((Instr.buildSlice t len (ps.map fun (i, x) => (i, a.eval x))).run P w) := (buildSlice_makes hp h).gives S

theorem makeSlice_makes {t : TypeId} {l l' c c' : Value} {K : Value → IHeap → Prop} (hl : VRel β.loc l l') (hc : VRel β.loc c c') (h : makeSlice P t l c H K) : MakesAt β w P H K (Instr.makeSlice t l' c') := by
  unfold makeSlice at h
  split at h
  · rename_i e k n k' m hu
    obtain rfl := hl.inv_int
    obtain rfl := hc.inv_int
    split at h
    · rename_i zs hz
      obtain ⟨hb, rfl, h0, hby, hmx, hk⟩ := bif_sound h
      simp only [Bool.and_eq_true] at hb
      obtain ⟨h1, h2⟩ := hb
      have h1 := Nat.eq_of_beq_eq_true h1
      obtain ⟨inf, hinf, hsz, h4⟩ := info_of_ble h2
      obtain ⟨i, z, hi, hzz, hg, hcs, hcells, hgl⟩ := zeroOf_spec hz
      rw [hinf] at hi
      cases hi
      obtain ⟨N, rfl⟩ := Int.eq_ofNat_of_zero_le h0
      rw [sby_of hinf] at hby
      have hw : IntKind.i64.wrap (N : Int) = N := IntWalk.i64_in _ (by omega)
      refine .cells e (v' := .slice (some ⟨w.heap.size, 0, none⟩) N N) (VsRel.of_ground β.loc _ (repeatL_ground hgl N)) ?_ (fun L q1 => .slice q1 (Nat.le_refl _) (Nat.le_refl _) (fun _ => rfl) (.inl rfl) (fun _ => ?_)) hk
      · have hmap : (Array.range (N * inf.size)).map (fun x => z.cells[x % z.cells.size]!) = ⟨repeatL N zs⟩ := by
          rw [hcells, hsz, ← h1]
          exact range_zeros zs N (.inr (by omega))
        have htl : (decide ((N : Int) < 0) || decide ((inf.bytes : Int) * (N : Int) > 2 ^ 48)) = false := by
          rw [Int.mul_comm]
          simp
          omega
        unfold Instr.makeSlice
        simp only [Sem.run_bind, run_und hu, Result.andThen_ok, asInt, asIntOf, Sem.run_pure, run_ti hinf, hw, htl, Sem.run_ite]
        rw [if_neg (by simp)]
        simp only [Sem.run_bind, run_askRoom, run_sz hinf, Result.andThen_ok, Sem.run_ite, Int.toNat_natCast]
        by_cases hz0 : N * inf.size = 0
        · have hN0 : N = 0 := by
            rcases Nat.mul_eq_zero.1 hz0 with h | h
            · exact h
            · omega
          subst hN0
          rw [if_pos hz0]
          rw [show ((Array.range (0 * inf.size)).map (fun x => (#[] : Array Value)[x % (#[] : Array Value).size]!)) = ⟨repeatL 0 zs⟩ from by simp [repeatL]]
          simp [newRow]
        · rw [if_neg hz0]
          simp only [run_zero hinf hzz, Result.andThen_ok, hmap]
          simp [newRow]
      · simp only [repeatL_length]
        have : (2 * ssz P e + 1) / 2 = ssz P e := by omega
        rw [this, h1]
        omega
    · exact h.elim
  · exact h.elim

theorem makeSlice_gives (S : Sim β H w) {t : TypeId} {l l' c c' : Value} {K : Value → IHeap → Prop} (hl : VRel β.loc l l') (hc : VRel β.loc c c') (h : makeSlice P t l c H K) : Gives β w K ((Instr.makeSlice t l' c').run P w) := (makeSlice_makes hl hc h).gives S

theorem bound_sound {v : Option Value} {d : Int} {K : Int → Prop} (h : bound v d K) : ∃ i, (v = none ∧ i = d ∨ ∃ k, v = some (.int k i)) ∧ K i := by
  unfold bound at h
  split at h
  · exact ⟨d, .inl ⟨rfl, rfl⟩, h⟩
  · exact ⟨_, .inr ⟨_, rfl⟩, h⟩
  · exact h.elim

theorem boundq_sound {v : Option Value} {K : Option Int → Prop} (h : bound? v K) : (v = none ∧ K none) ∨ ∃ k i, v = some (.int k i) ∧ K (some i) := by
  unfold bound? at h
  split at h
  · exact .inl ⟨rfl, h⟩
  · exact .inr ⟨_, _, rfl, h⟩
  · exact h.elim

def ORelV (L : LMap) : Option Value → Option Value → Prop
  | none, none => True
  | some v, some v' => VRel L v v'
  | _, _ => False

theorem orelV_none {L : LMap} {v : Option Value} (h : ORelV L none v) : v = none := by cases v <;> first | rfl | exact h.elim
theorem orelV_int {L : LMap} {k : IntKind} {i : Int} {v : Option Value} (h : ORelV L (some (.int k i)) v) : v = some (.int k i) := by
  cases v with
  | none => exact h.elim
  | some v => rw [VRel.inv_int h]

theorem orelV_map {L : LMap} {nt : Nat} {env : Env} {a : Act} (hT : TRel L nt env a.tmps) {x : Option Operand} (h : (x.map (okOpd nt)).getD true = true) : ORelV L (x.map (iev env)) (x.map a.eval) := by
  cases x with
  | none => trivial
  | some x => exact iev_rel hT (by simpa using h)

theorem run_sliceBound {k : IntKind} {i : Int} {y : Nat} {code : BoundsCode} (h0 : 0 ≤ i) (h1 : i ≤ y) : (Instr.sliceBound (.int k i) y code).run P w = .ok i.toNat w := by
  unfold Instr.sliceBound
  simp [asIntOf, h0, h1]

def capM (c : Nat) : Option Int → Nat
  | none => c
  | some m => m.toNat
def bndM (h : Int) (c : Nat) : Option Int → Prop
  | none => h ≤ c
  | some m => h ≤ m ∧ m ≤ c

/-- The three bounds of a slice expression, worked out. -/
theorem run_bounds (isSlice : Bool) (n c : Nat) {lo hi mx : Option Value} {l h : Int} {m : Option Int} (hl : lo = none ∧ l = 0 ∨ ∃ k, lo = some (.int k l)) (hh : hi = none ∧ h = n ∨ ∃ k, hi = some (.int k h))
    (hm : mx = none ∧ m = none ∨ ∃ k i, mx = some (.int k i) ∧ m = some i) (h0 : 0 ≤ l) (h1 : l ≤ h) (h2 : bndM h c m) (hx : mx = none ∨ hi ≠ none) :
    (Instr.sliceBounds isSlice n c lo hi mx).run P w = .ok (l.toNat, h.toNat, capM c m) w := by
  unfold Instr.sliceBounds
  rcases hm with ⟨rfl, rfl⟩ | ⟨km, i, rfl, rfl⟩
  · simp only [bndM] at h2
    rcases hh with ⟨rfl, rfl⟩ | ⟨kh, rfl⟩
    · rcases hl with ⟨rfl, rfl⟩ | ⟨kl, rfl⟩
      · simp [capM]
      · simp [run_sliceBound h0 h1, capM]
    · rcases hl with ⟨rfl, rfl⟩ | ⟨kl, rfl⟩
      · simp [run_sliceBound (show 0 ≤ h by omega) h2, capM]
      · have h1' : l ≤ (h.toNat : Int) := by omega
        simp [run_sliceBound (show 0 ≤ h by omega) h2, run_sliceBound h0 h1', capM]
  · simp only [bndM] at h2
    rcases hh with ⟨rfl, rfl⟩ | ⟨kh, rfl⟩
    · rcases hx with h | h
      · cases h
      · exact absurd rfl h
    · have h2' : h ≤ (i.toNat : Int) := by omega
      rcases hl with ⟨rfl, rfl⟩ | ⟨kl, rfl⟩
      · simp [run_sliceBound (show 0 ≤ i by omega) h2.2, run_sliceBound (show 0 ≤ h by omega) h2', capM]
      · have h1' : l ≤ (h.toNat : Int) := by omega
        simp [run_sliceBound (show 0 ≤ i by omega) h2.2, run_sliceBound (show 0 ≤ h by omega) h2', run_sliceBound h0 h1', capM]

theorem cut_rel {a : Option Addr} {n c sz : Nat} {l h : Int} {m : Option Int} {v' : Value} {K : Option Addr → Nat → Nat → Prop} (hv : VRel β.loc (.slice a n c) v') (hc : cut a c sz l h m K) :
    ∃ (A : Option Addr) (C : Nat), v' = .slice A n C ∧ 0 ≤ l ∧ l ≤ h ∧ bndM h C m ∧
      ∃ a' n' c', VRel β.loc (.slice a' n' c') (.slice (if capM C m = l.toNat then A else A.map (·.add (l.toNat * sz))) (h.toNat - l.toNat) (capM C m - l.toNat)) ∧ K a' n' c' := by
  unfold cut at hc
  rcases hv.inv_slice with ⟨rfl, rfl, rfl, rfl⟩ | ⟨id, off, q, rfl, rfl, rfl, rfl⟩ | ⟨id, off, q, L, o', C, rfl, hl, rfl, h1, h2, h3, h4, h5⟩
  rotate_left
  · cases m with
    | none =>
      simp only at hc
      obtain ⟨hq, g0, g1, g2, hk⟩ := hc
      obtain rfl : l = 0 := by omega
      obtain rfl : h = 0 := by omega
      exact ⟨none, 0, rfl, by omega, by omega, by simp [bndM], _, _, _, by simpa [capM] using .sliceE (by first | exact hv.nil_even | rfl), hk⟩
    | some m =>
      simp only at hc
      obtain ⟨hq, g0, g1, g2, g3, hk⟩ := hc
      obtain rfl : l = 0 := by omega
      obtain rfl : h = 0 := by omega
      obtain rfl : m = 0 := by omega
      exact ⟨none, 0, rfl, by omega, by omega, by simp [bndM], _, _, _, by simpa [capM] using .sliceE (by first | rfl | (show (2 * sz + 0) % 2 = 0; omega)), hk⟩
  rotate_left
  · simp only at hc
    obtain ⟨rfl, rfl, hm, hk⟩ := hc
    refine ⟨none, 0, rfl, by omega, by omega, ?_, none, 0, 0, ?_, hk⟩
    · cases m with
      | none => simp [bndM]
      | some m => simp only at hm; subst hm; simp [bndM]
    · cases m with
      | none => simpa [capM] using .sliceNil
      | some m => simp only at hm; subst hm; simpa [capM] using .sliceNil
  · cases m with
    | none =>
      simp only at hc
      obtain ⟨hq, g0, g1, g2, hk⟩ := hc
      refine ⟨_, C, rfl, g0, g1, by simp only [bndM]; omega, _, _, _, ?_, hk⟩
      show VRel β.loc _ (.slice (if C = l.toNat then some ⟨L.block, o', none⟩ else (some (⟨L.block, o', none⟩ : Addr)).map (·.add (l.toNat * sz))) (h.toNat - l.toNat) (C - l.toNat))
      have hq' : q / 2 = sz := hq
      by_cases hcl : C = l.toNat
      · rw [if_pos hcl]
        refine .slice hl (by omega) (by omega) (fun e => ?_) (.inr (by omega)) (fun hr => ?_)
        · have := h3 e; omega
        · have := h5 hr
          rw [hcl, Nat.sub_self, Nat.zero_mul]
          omega
      · rw [if_neg hcl]
        simp only [Option.map_some, addr_add]
        refine .slice hl (by omega) (by omega) (fun e => ?_) ?_ (fun hr => ?_)
        · have := h3 e; omega
        · rcases h4 with h4 | h4
          · exact .inl (by omega)
          · exact .inr (by omega)
        · have h5' := h5 hr
          rw [hq'] at h5' ⊢
          have hle : l.toNat ≤ C := by omega
          have : C * sz = l.toNat * sz + (C - l.toNat) * sz := by rw [← Nat.add_mul]; congr 1; omega
          omega
    | some m =>
      simp only at hc
      obtain ⟨hq, g0, g1, g2, g3, hk⟩ := hc
      refine ⟨_, C, rfl, g0, g1, by simp only [bndM]; omega, _, _, _, ?_, hk⟩
      show VRel β.loc _ (.slice (if m.toNat = l.toNat then some ⟨L.block, o', none⟩ else (some (⟨L.block, o', none⟩ : Addr)).map (·.add (l.toNat * sz))) (h.toNat - l.toNat) (m.toNat - l.toNat))
      have hq' : exq sz (m.toNat - l.toNat) / 2 = sz := exq_half _ _
      by_cases hcl : m.toNat = l.toNat
      · rw [if_pos hcl]
        refine .slice hl (by omega) (by omega) (fun e => by omega) (.inr (by omega)) (fun hr => ?_)
        have := h5 hr
        rw [hcl, Nat.sub_self, Nat.zero_mul]
        omega
      · rw [if_neg hcl]
        simp only [Option.map_some, addr_add]
        refine .slice hl (by omega) (by omega) (fun e => by omega) ?_ (fun hr => ?_)
        · rcases h4 with h4 | h4
          · exact .inl (by omega)
          · exact .inr (by omega)
        · have h5' := h5 hr
          rw [hq] at h5'
          rw [hq']
          have hle : l.toNat ≤ m.toNat := by omega
          have hle2 : m.toNat ≤ C := by omega
          have e1 : m.toNat * sz = l.toNat * sz + (m.toNat - l.toNat) * sz := by rw [← Nat.add_mul]; congr 1; omega
          have e2 : m.toNat * sz ≤ C * sz := Nat.mul_le_mul_right _ hle2
          omega

theorem slice_pg (S : Sim β H w) {t : TypeId} {x x' : Value} {lo hi mx lo' hi' mx' : Option Value} {K : Value → Prop} (hx : VRel β.loc x x') (hlo : ORelV β.loc lo lo') (hhi : ORelV β.loc hi hi') (hmx : ORelV β.loc mx mx')
    (h : slice P t H x lo hi mx K) : PG β w P K (Instr.sliceAt t x' lo' hi' mx') := by
  have bd : ∀ {v v' : Option Value} {d i : Int}, ORelV β.loc v v' → (v = none ∧ i = d ∨ ∃ k, v = some (.int k i)) → (v' = none ∧ i = d ∨ ∃ k, v' = some (.int k i)) := by
    rintro v v' d i hr (⟨rfl, rfl⟩ | ⟨k, rfl⟩)
    · exact .inl ⟨orelV_none hr, rfl⟩
    · exact .inr ⟨k, orelV_int hr⟩
  unfold slice at h
  split at h
  · rename_i e a n c hu
    obtain ⟨hb, h⟩ := bif_sound h
    simp only [Bool.and_eq_true, Bool.or_eq_true] at hb
    obtain ⟨inf, hinf, hsz, _⟩ := info_of_ble hb.1
    obtain ⟨l, hl, h⟩ := bound_sound h
    obtain ⟨hh, hh', h⟩ := bound_sound h
    have hx3 : mx' = none ∨ hi' ≠ none := by
      rcases hb.2 with g | g
      · left
        cases mx with
        | none => exact orelV_none hmx
        | some _ => simp at g
      · right
        cases hi with
        | none => simp at g
        | some _ => cases hi' <;> simp_all [ORelV]
    obtain ⟨m, hm, hc⟩ : ∃ m, (mx' = none ∧ m = none ∨ ∃ k i, mx' = some (.int k i) ∧ m = some i) ∧ cut a c (ssz P e) l hh m fun a' n' c' => K (.slice a' n' c') := by
      rcases boundq_sound h with ⟨rfl, h⟩ | ⟨k, i, rfl, h⟩
      · exact ⟨none, .inl ⟨orelV_none hmx, rfl⟩, h⟩
      · exact ⟨some i, .inr ⟨k, i, orelV_int hmx, rfl⟩, h⟩
    obtain ⟨A, C, rfl, g0, g1, g2, a', n', c', g3, g4⟩ := cut_rel hx hc
    refine ⟨_, _, ?_, g3, g4⟩
    unfold Instr.sliceAt Instr.slice
    have hrb := run_bounds (P := P) (w := w) true n C (bd hlo hl) (bd hhi hh') hm g0 g1 g2 hx3
    simp only [Sem.run_bind, run_und hu, Result.andThen_ok, hrb, run_sz hinf, Sem.run_pure, hsz]
  · rename_i s hu
    obtain rfl := hx.inv_str
    obtain ⟨l, hl, h⟩ := bound_sound h
    obtain ⟨hh, hh', h⟩ := bound_sound h
    have hnm : mx' = none ∧ 0 ≤ l ∧ l ≤ hh ∧ hh ≤ s.size ∧ K (.string (s.extract l.toNat hh.toNat)) := by
      rcases boundq_sound h with ⟨rfl, h⟩ | ⟨k, i, rfl, h⟩
      · exact ⟨orelV_none hmx, h.2⟩
      · exact absurd h.1 (by simp)
    obtain ⟨rfl, g0, g1, g2, g3⟩ := hnm
    refine ⟨_, _, ?_, .str _, g3⟩
    unfold Instr.sliceAt Instr.slice
    have hrb := run_bounds (P := P) (w := w) false s.size s.size (bd hlo hl) (bd hhi hh') (m := none) (.inl ⟨rfl, rfl⟩) g0 g1 g2 (.inl rfl)
    simp only [Sem.run_bind, run_und hu, Result.andThen_ok, hrb, Sem.run_pure, Option.isSome_none, Bool.false_eq_true, if_false]
  · rename_i n e a hu
    obtain ⟨hb, h⟩ := bif_sound h
    obtain ⟨inf, hinf, hsz, _⟩ := info_of_ble hb
    obtain ⟨l, hl, h⟩ := bound_sound h
    obtain ⟨hh, hh', h⟩ := bound_sound h
    obtain ⟨hn, hc⟩ : mx' = none ∧ cutArr H a n (ssz P e) l hh fun i o n' c => K (.slice (some ⟨i, o, some (2 * ssz P e + 1)⟩) n' c) := by
      rcases boundq_sound h with ⟨rfl, h⟩ | ⟨k, i, rfl, h⟩
      · exact ⟨orelV_none hmx, h.2⟩
      · exact absurd h.1 (by simp)
    subst hn
    obtain ⟨g0, g1, g2, hp⟩ := hc
    obtain ⟨i, o, rfl, ⟨cs, hcs, hlen⟩, hk⟩ := pcase_sound hp
    obtain ⟨_, L, hL, rfl⟩ := hx.inv_ptr
    have hrb := run_bounds (P := P) (w := w) false n n (bd hlo hl) (bd hhi hh') (m := none) (.inl ⟨rfl, rfl⟩) g0 g1 g2 (.inl rfl)
    have hO := S.obj i L _ hL hcs
    obtain ⟨_, _, arr, T, vs, q1, q2, q3, _⟩ := hO
    have hq : (2 * ssz P e + 1) / 2 = ssz P e := by omega
    refine ⟨.slice (some (if n = l.toNat then ⟨L.block, L.base + o, none⟩ else (⟨L.block, L.base + o, none⟩ : Addr).add (l.toNat * ssz P e))) (hh.toNat - l.toNat) (n - l.toNat), _, ?_, ?_, hk⟩
    · unfold Instr.sliceAt
      simp only [Sem.run_bind, run_und hu, Instr.sureAddr, Result.andThen_ok, hrb, run_sz hinf, Sem.run_pure, hsz]
      rfl
    · by_cases hcl : n = l.toNat
      · rw [if_pos hcl]
        exact .slice hL (by omega) (by omega) (fun _ => rfl) (.inr (by omega)) (fun _ => by rw [← hcl, Nat.sub_self, Nat.zero_mul]; omega)
      · rw [if_neg hcl, addr_add]
        refine .slice hL (by omega) (by omega) (fun _ => rfl) (.inl (by omega)) (fun _ => ?_)
        rw [hq]
        have e1 : n * ssz P e = l.toNat * ssz P e + (n - l.toNat) * ssz P e := by rw [← Nat.add_mul]; congr 1; omega
        omega
  · exact h.elim

theorem sliceCells_sound (S : Sim β H w) {a : Option Addr} {n m k sz : Nat} {v' : Value} {K : List Value → Prop} (hk : k ≤ n) (hv : VRel β.loc (.slice a n m) v') (h : sliceCells H a k sz K) :
    ∃ cs cs' : List Value, (Builtin.firstCells sz k v').run P w = .ok ⟨cs'⟩ w ∧ VsRel β.loc cs cs' ∧ K cs ∧ cs.length = k * sz := by
  unfold sliceCells at h
  rcases hv.inv_slice with ⟨rfl, rfl, rfl, rfl⟩ | ⟨id, off, q, rfl, rfl, rfl, rfl⟩ | ⟨id, off, q, L, o', C, rfl, hl, rfl, h1, h2, h3, h4, h5⟩
  · simp only at h
    obtain ⟨rfl, hK⟩ := h
    exact ⟨[], [], by simp [Builtin.firstCells], .nil, hK, by simp⟩
  · simp only at h
    obtain ⟨cs, hc, hK⟩ := h
    have hcl := cellsAt_length hc
    obtain rfl : k = 0 := by omega
    obtain rfl : cs = [] := List.eq_nil_of_length_eq_zero (by omega)
    exact ⟨[], [], by simp [Builtin.firstCells], .nil, hK, by simp⟩
  · simp only at h
    obtain ⟨cs, hc, hK⟩ := h
    have hcl := cellsAt_length hc
    by_cases hz : C = 0
    · have hk0 : k = 0 := by omega
      subst hk0
      have : cs = [] := List.eq_nil_of_length_eq_zero (by omega)
      subst this
      exact ⟨[], [], by simp [Builtin.firstCells, Go.loadCells, loadCellsFrom], .nil, hK, by simp⟩
    · obtain rfl := h4.resolve_right hz
      obtain ⟨cs', g1, g2⟩ := S.loadCells P hl hc
      exact ⟨cs, cs', by simpa [Builtin.firstCells] using g2, g1, hK, hcl⟩

end
end Ide

/- append. -/
set_option linter.unusedVariables false
set_option linter.unusedSimpArgs false
namespace Ide
open Go Go.RowKit
variable [Pol]

theorem beq_false {a b : Nat} (h : a ≠ b) : Nat.beq a b = false := by
  cases hb : Nat.beq a b with
  | false => rfl
  | true => exact absurd (Nat.eq_of_beq_eq_true hb) h

theorem growBy_le (need : Nat) : ∀ (r c : Nat), 256 ≤ c → c ≤ 2 * need → Builtin.growBy need r c ≤ 2 * need
  | 0, c, _, h => h
  | r + 1, c, h0, h => by
    unfold Builtin.growBy
    split
    · exact h
    · exact growBy_le need r _ (by omega) (by omega)

theorem nextslicecap_le {need c : Nat} (h : c < need) : Builtin.nextslicecap need c ≤ 2 * need := by
  unfold Builtin.nextslicecap
  split
  · omega
  · split
    · omega
    · exact growBy_le need 4 c (by omega) (by omega)

section
variable {P : Program} {β : Emb} {H : IHeap} {w : World}

theorem rowOk_spec {e : TypeId} (h : rowOk P e = true) : ∃ i z zs, P.info? e = some i ∧ i.size = ssz P e ∧ 1 ≤ i.size ∧ i.zero = some z ∧ z.cells = ⟨zs⟩ ∧ zs.length = i.size := by
  unfold rowOk at h
  simp only [Bool.and_eq_true] at h
  obtain ⟨h1, h2⟩ := h
  obtain ⟨i, hi, hs, h3⟩ := info_of_ble h1
  split at h2
  · rename_i zs hz
    obtain ⟨i', z, hi', hz1, _, _, hc, _⟩ := zeroOf_spec hz
    rw [hi] at hi'
    cases hi'
    exact ⟨i, z, zs, hi, hs, h3, hz1, hc, by rw [hs]; exact Nat.eq_of_beq_eq_true h2⟩
  · cases h2

theorem Sim.kill (S : Sim β H w) (i : Nat) : Sim β (H.set i .dead) w where
  below := S.below
  dom := fun j l h => by simpa using S.dom j l h
  held := fun j h => by
    obtain ⟨h1, h2, h3⟩ := S.held j h
    refine ⟨by simpa using h1, h2, fun h4 => ?_⟩
    by_cases e : i = j
    · subst e; rw [List.getElem?_set] at h4; simp [h1] at h4
    · rw [List.getElem?_set_ne e] at h4; exact h3 h4
  blk := S.blk
  obj := fun j l o h1 h2 => by
    by_cases e : i = j
    · subst e
      rw [List.getElem?_set] at h2
      simp at h2
      rw [← h2.2]
      trivial
    · rw [List.getElem?_set_ne e] at h2
      exact S.obj j l o h1 h2
  inj := fun a b l1 l2 o1 o2 h1 h2 h3 h4 h5 h6 he => by
    have key : ∀ (a : Nat) (x : IObj), (H.set i IObj.dead)[a]? = some x → x.own = true → H[a]? = some x := by
      intro a x hx hxo
      by_cases e : i = a
      · subst e
        rw [List.getElem?_set] at hx
        simp at hx
        rw [← hx.2] at hxo
        cases hxo
      · rwa [List.getElem?_set_ne e] at hx
    exact S.inj a b l1 l2 o1 o2 h1 h2 (key a o1 h3 h5) (key b o2 h4 h6) h5 h6 he

/-- The world behind a draw. -/
theorem Sim.drawn (S : Sim β H w) : Sim β H { w with drawn := w.drawn + 1 } := S.congr rfl (Below.drew (Below.refl _ _))

/-- append where the machine must make a new row. -/
theorem grow_gives (S : Sim β H w) {t u ty e : TypeId} {i : TypeInfo} {z : Value} {zs : List Value} (hu : P.underlying t = some (.slice e)) {e' : TypeId} (hu' : P.underlying u = some (.slice e')) (hi : P.info? e = some i) (h1 : 1 ≤ i.size) (hz : i.zero = some z) (hzc : z.cells = ⟨zs⟩) (hzl : zs.length = i.size)
    {A B : Option Addr} {n m C D : Nat} {H' : IHeap} (S' : Sim β H' w) (hC : C < n + m) (hby : (n + m) * i.bytes ≤ 70368744177664) (hmx : n + m ≤ 70368744177664)
    {old new old' new' : List Value} (ho : ∀ W : World, W.heap = w.heap → Below β.w0.heap.size w W → (Builtin.firstCells i.size n (.slice A n C)).run P W = .ok ⟨old'⟩ W) (hn : ∀ W : World, W.heap = w.heap → Below β.w0.heap.size w W → (Builtin.firstCells i.size m (.slice B m D)).run P W = .ok ⟨new'⟩ W)
    (hor : VsRel β.loc old old') (hnr : VsRel β.loc new new') (hol : old.length = n * i.size) (hnl : new.length = m * i.size) :
    ∃ (v' : Value) (w' : World) (β' : Emb), (Builtin.append_ #[t, u] ty #[.slice A n C, .slice B m D]).run P w = .ok v' w' ∧ Step β w β' w' ∧ Sim β' (newO H' (.cells (old ++ new) true)) w' ∧ VRel β'.loc (.slice (some ⟨Pol.pos H', 0, some (2 * i.size)⟩) (n + m) (n + m)) v' := by
  let w1 : World := { w with drawn := w.drawn + 1 }
  have S1 : Sim β H' w1 := S'.drawn
  let cap := Question.cut (.appendCap (n + m) C e) (w.tape w.drawn (.appendCap (n + m) C e))
  have hcap : n + m ≤ cap := by
    show n + m ≤ n + m + _ % _
    omega
  let arr : Array Value := ⟨old'⟩ ++ ⟨new'⟩ ++ Builtin.zeroCells z.cells (cap - (n + m))
  have hzsz : (Builtin.zeroCells z.cells (cap - (n + m))).size = (cap - (n + m)) * i.size := by
    simp [Builtin.zeroCells, hzc, hzl]
  have hol' := hor.length
  have hnl' := hnr.length
  have hsz : arr.size = cap * i.size := by
    show (_ ++ _ ++ _ : Array Value).size = _
    simp only [Array.size_append, hzsz]
    simp only [List.size_toArray]
    rw [hol', hol, hnl', hnl, ← Nat.add_mul, ← Nat.add_mul]
    congr 1
    omega
  have hle : (n + m) * i.size ≤ cap * i.size := Nat.mul_le_mul_right _ hcap
  have hnm : (n + m) * i.size = n * i.size + m * i.size := Nat.add_mul _ _ _
  obtain ⟨β', q1, q2, q3⟩ := (S1.ghost (.cells (old ++ new) true)).newCells (id := Pol.pos H') (newO_self _ _) S1.unplaced arr e (old' ++ new') (hor.append hnr) (fun j v hj => by
      show (_ ++ _ ++ _ : Array Value)[j]? = some v
      have hjl := get_lt hj
      rw [Array.getElem?_append_left (by simpa using hjl)]
      simpa using hj) (by rw [hsz, List.length_append, hol, hnl]; omega)
  refine ⟨.slice (some ⟨w.heap.size, 0, none⟩) (n + m) cap, { w1 with heap := w1.heap.push (.cells arr e) }, β', ?_, (Step.of_heap (w := w) (w' := w1) rfl).trans q2, q3, ?_⟩
  · have hns : ¬ (Builtin.nextslicecap (n + m) C * i.bytes > 2 ^ 48) := by
      have := nextslicecap_le hC
      have := Nat.mul_le_mul_right i.bytes this
      rw [Nat.mul_assoc] at this
      omega
    have hb0 : ¬ (((n + m : Nat) : Int) > IntKind.i64.max ∧ ((false = true) ∨ i.bytes = 0)) := by
      have : (IntKind.i64.max : Int) = 9223372036854775807 := rfl
      omega
    unfold Builtin.append_
    simp only [List.getElem?_toArray, List.getElem?_cons_zero, List.getElem?_cons_succ, Sem.run_bind, run_und hu, run_und hu', Result.andThen_ok, run_sz hi, Sem.run_pure, Builtin.lenOf, Bool.false_eq_true, if_false, Sem.run_ite]
    rw [if_neg (by omega)]
    simp only [run_ti hi, Result.andThen_ok]
    rw [if_neg (by simp only [Bool.false_eq_true] at hb0; exact hb0), if_neg hns]
    have hch : (choose (Question.appendCap (n + m) C e)).run P w = .ok cap w1 := by
      simp only [run_choose, Question.forced, Bool.false_eq_true, if_false]
      rfl
    simp only [hch, Result.andThen_ok, run_ti hi, run_askRoom, Bool.not_false, if_true]
    have hw1 : Below β.w0.heap.size w w1 := Below.drew (Below.refl _ _)
    simp only [ho w1 rfl hw1, hn w1 rfl hw1, Result.andThen_ok, run_zero hi hz]
    rfl
  · exact .slice q1 (Nat.le_refl _) hcap (fun h => by omega) (.inl rfl) (fun _ => by
      have e : 2 * i.size / 2 = i.size := by omega
      simp only
      rw [hsz, e]; omega)

/-- Reading a slice's cells, in whatever world of the same memory. -/
theorem firstCells_any (S : Sim β H w) {a : Option Addr} {n m k sz : Nat} {v' : Value} {K : List Value → Prop} (hk : k ≤ n) (hv : VRel β.loc (.slice a n m) v') (h : sliceCells H a k sz K) :
    ∃ cs cs' : List Value, (∀ W : World, W.heap = w.heap → Below β.w0.heap.size w W → (Builtin.firstCells sz k v').run P W = .ok ⟨cs'⟩ W) ∧ VsRel β.loc cs cs' ∧ K cs ∧ cs.length = k * sz ∧ sliceCells H a k sz (· = cs) := by
  obtain ⟨cs, cs', g1, g2, g3, g4⟩ := sliceCells_sound (P := P) (K := fun x => K x ∧ sliceCells H a k sz (· = x)) S hk hv (by
    unfold sliceCells at h ⊢
    split at h
    · exact ⟨h.1, h.2, h.1, rfl⟩
    · obtain ⟨cs, h1, h2⟩ := h
      exact ⟨cs, h1, h2, cs, h1, rfl⟩
    · exact h.elim)
  refine ⟨cs, cs', fun W hW hB => ?_, g2, g3.1, g4, g3.2⟩
  have S' := S.congr hW hB
  obtain ⟨ds, ds', q1, q2, q3, q4⟩ := sliceCells_sound (P := P) (w := W) S' hk hv h
  rcases hv.inv_slice with ⟨rfl, rfl, rfl, rfl⟩ | ⟨id, off, q, rfl, rfl, rfl, rfl⟩ | ⟨id, off, q, L, o', C, rfl, hl, rfl, h1, h2, h3, h4, h5⟩
  · simp [Builtin.firstCells] at g1 q1 ⊢
    exact g1
  · simp [Builtin.firstCells] at g1 q1 ⊢
    exact g1
  · simp only [Builtin.firstCells] at g1 ⊢
    have hcell : ∀ a : Addr, W.cell? a = w.cell? a := fun a => by simp only [World.cell?, hW]
    -- the same cells are loaded
    have key : ∀ (k i : Nat) (acc r : Array Value), (loadCellsFrom ⟨L.block, o', none⟩ i k acc).run P w = .ok r w → (∀ j, j < k → (w.cell? ((⟨L.block, o', none⟩ : Addr).add (i + j))).isSome = true) → (loadCellsFrom ⟨L.block, o', none⟩ i k acc).run P W = .ok r W := by
      intro k
      induction k with
      | zero => intro i acc r h _; simp [loadCellsFrom] at h ⊢; exact h
      | succ k ih =>
        intro i acc r h hs
        have h0 := hs 0 (by omega)
        simp only [Nat.add_zero] at h0
        obtain ⟨x, hx⟩ := Option.isSome_iff_exists.1 h0
        simp only [loadCellsFrom, Sem.run_bind, run_load, hx, Result.andThen_ok] at h
        simp only [loadCellsFrom, Sem.run_bind, run_load, hcell, hx, Result.andThen_ok]
        exact ih (i + 1) _ r h (fun j hj => by have := hs (j + 1) (by omega); rwa [show i + (j + 1) = i + 1 + j by omega] at this)
    refine key _ 0 _ _ g1 (fun j hj => ?_)
    unfold sliceCells at h
    simp only at h
    obtain ⟨es, he, _⟩ := h
    have hel := cellsAt_length he
    by_cases hz : C = 0
    · have : k = 0 := by omega
      subst this
      simp at hj
    · obtain rfl := h4.resolve_right hz
      obtain ⟨v, hv1, _⟩ := S.cell hl (cellsAt_get he (List.getElem?_eq_getElem (show j < es.length by omega)))
      rw [addr_add, Nat.zero_add, Nat.add_assoc, hv1]
      rfl

theorem append_gives (S : Sim β H w) {t u ty : TypeId} {x y x' y' : Value} {K : Value → IHeap → Prop} {e' : TypeId} (hu' : P.underlying u = some (.slice e')) (hx : VRel β.loc x x') (hy : VRel β.loc y y') (h : append P t x y H K) :
    Gives β w K ((Builtin.append_ #[t, u] ty #[x', y']).run P w) := by
  unfold append at h
  split at h
  · rename_i e a n c b m d hu
    obtain ⟨hro, ⟨hby, hmx⟩, h⟩ := bif_sound h
    obtain ⟨i, z, zs, hi, hsz, h1, hz, hzc, hzl⟩ := rowOk_spec hro
    rw [← hsz] at h
    rw [sby_of hi] at hby
    obtain ⟨old, old', ho, hor, h, hol, hoS⟩ := firstCells_any (P := P) S (Nat.le_refl _) hx h
    obtain ⟨new, new', hn, hnr, h, hnl, hnS⟩ := firstCells_any (P := P) S (Nat.le_refl _) hy h
    have w_self : (Builtin.firstCells i.size m y').run P w = .ok ⟨new'⟩ w := hn w rfl (Below.refl _ _)
    obtain ⟨B, D, rfl⟩ : ∃ B D, y' = .slice B m D := by
      rcases hy.inv_slice with ⟨_, rfl, _, rfl⟩ | ⟨_, _, _, _, rfl, _, rfl⟩ | ⟨_, _, _, _, _, _, _, _, rfl, _⟩ <;> exact ⟨_, _, rfl⟩
    obtain ⟨A, C, rfl, hcC, hnC⟩ : ∃ A C, x' = .slice A n C ∧ c ≤ C ∧ n ≤ c := by
      rcases hx.inv_slice with ⟨_, rfl, rfl, rfl⟩ | ⟨_, _, _, _, rfl, rfl, rfl⟩ | ⟨_, _, _, _, _, _, _, _, rfl, g1, g2, _⟩
      · exact ⟨_, _, rfl, Nat.le_refl _, Nat.le_refl _⟩
      · exact ⟨_, _, rfl, Nat.le_refl _, Nat.le_refl _⟩
      · exact ⟨_, _, rfl, g2, g1⟩
    have stay : n + m ≤ C → ∀ (r : Result Value), (∀ a0, A = some a0 → ((Go.storeCells (a0.add (n * i.size)) new').run P w).andThen (fun _ w' => Result.ok (Value.slice A (n + m) C) w') = r) → (A = none → Result.ok (Value.slice A (n + m) C) w = r) → (Builtin.append_ #[t, u] ty #[.slice A n C, .slice B m D]).run P w = r := by
      intro hle r hs hnone
      unfold Builtin.append_
      simp only [List.getElem?_toArray, List.getElem?_cons_zero, List.getElem?_cons_succ, Sem.run_bind, run_und hu, run_und hu', Result.andThen_ok, run_sz hi, Sem.run_pure, Builtin.lenOf, Bool.false_eq_true, if_false, Sem.run_ite]
      rw [if_pos hle]
      simp only [Bool.not_false, if_true, w_self, Result.andThen_ok]
      cases A with
      | none => simpa using hnone rfl
      | some a0 => simpa [Sem.run_bind] using hs a0 rfl
    rcases h with h | ⟨ha, hgo⟩
    rotate_left
    · subst ha
      rcases hx.inv_slice with ⟨_, rfl, rfl, hxe⟩ | ⟨_, _, _, h', _⟩ | ⟨_, _, _, _, _, _, h', _⟩
      · cases hxe
        by_cases hmz : m = 0
        · subst hmz
          have hnew : new' = [] := List.eq_nil_of_length_eq_zero (by rw [hnr.length, hnl]; simp)
          subst hnew
          exact ⟨.slice none (0 + 0) 0, w, stay (by omega) _ (fun a0 ha => by cases ha) (fun _ => rfl), β, _, newSlice H (0 + 0) i.size, Step.refl _ _, S.ghost _, .sliceE (by omega), hgo⟩
        · obtain ⟨v', w', β', q1, q2, q3, q4⟩ := grow_gives S (ty := ty) hu hu' hi h1 hz hzc hzl S (by omega) hby hmx ho hn hor hnr hol hnl
          exact ⟨v', w', q1, β', _, _, q2, q3, q4, hgo⟩
      · cases h'
      · cases h'
    unfold appended at h
    obtain ⟨hm0, hm1⟩ := bcase_sound h
    by_cases hmz : m = 0
    · subst hmz
      have hk := hm0 rfl
      have hnew : new' = [] := List.eq_nil_of_length_eq_zero (by rw [hnr.length, hnl]; simp)
      subst hnew
      refine .same S (v' := .slice A n C) (stay (by omega) _ (fun a0 _ => ?_) (fun hA => ?_)) hx hk
      · simp [Go.storeCells]
      · simp
    · have hk := hm1 (beq_false hmz)
      clear hm0 hm1 h
      split at hk
      · rcases hx.inv_slice with ⟨_, rfl, rfl, hxe⟩ | ⟨_, _, _, h', _⟩ | ⟨_, _, _, _, _, _, h', _⟩
        · cases hxe
          obtain ⟨v', w', β', q1, q2, q3, q4⟩ := grow_gives S (ty := ty) hu hu' hi h1 hz hzc hzl S (by omega) hby hmx ho hn hor hnr hol hnl
          exact ⟨v', w', q1, β', _, _, q2, q3, q4, hk⟩
        · cases h'
        · cases h'
      · rename_i id off q _ _
        obtain ⟨⟨hq, hone⟩, hin, hgr⟩ := hk
        rcases hx.inv_slice with ⟨h', _⟩ | ⟨_, _, _, _, rfl, rfl, hxe⟩ | ⟨id', off', q', L, o', C', h', hl, hxe, g1, g2, g3, g4, g5⟩
        · cases h'
        · cases hxe
          have hk := hgr (by omega)
          obtain ⟨hodd, heven⟩ := bcase_sound hk
          by_cases hpar : q % 2 = 1
          · obtain ⟨v', w', β', q1, q2, q3, q4⟩ := grow_gives S (ty := ty) hu hu' hi h1 hz hzc hzl S (by omega) hby hmx ho hn hor hnr hol hnl
            exact ⟨v', w', q1, β', _, _, q2, q3, q4, hodd (by simp [hpar])⟩
          · obtain ⟨⟨cs, hcs⟩, hk⟩ := heven (beq_false hpar)
            obtain ⟨v', w', β', q1, q2, q3, q4⟩ := grow_gives S (ty := ty) hu hu' hi h1 hz hzc hzl (S.kill id) (by omega) hby hmx ho hn hor hnr hol hnl
            rw [Pol.kill H id cs hcs] at q4
            exact ⟨v', w', q1, β', _, _, q2, q3, q4, hk⟩
        · cases h'
          cases hxe
          by_cases hfit : n + m ≤ c
          · -- there is room for certain
            have hC0 : C ≠ 0 := by omega
            obtain rfl := g4.resolve_right hC0
            obtain ⟨cs, p1, p2, p3⟩ := hin hfit
            obtain ⟨w', s1, s2, s3⟩ := S.storeCells P hl p1 p2 hnr hone
            refine ⟨.slice (some ⟨L.block, L.base + off, none⟩) (n + m) C, w', stay (by omega) _ (fun a0 ha0 => ?_) (fun hA => by cases hA), β, _, .slice (some ⟨id, off, some q⟩) (n + m) c, s2, s3, .slice hl hfit g2 g3 (.inl rfl) g5, p3⟩
            cases ha0
            rw [addr_add, Nat.add_assoc, s1]
            rfl
          · have hk := hgr (by omega)
            obtain ⟨hodd, heven⟩ := bcase_sound hk
            by_cases hpar : q % 2 = 1
            · have hCc := g3 hpar
              obtain ⟨v', w', β', q1, q2, q3, q4⟩ := grow_gives S (ty := ty) hu hu' hi h1 hz hzc hzl S (by omega) hby hmx ho hn hor hnr hol hnl
              exact ⟨v', w', q1, β', _, _, q2, q3, q4, hodd (by simp [hpar])⟩
            · obtain ⟨⟨cs, hcs⟩, hk⟩ := heven (beq_false hpar)
              by_cases hroom : n + m ≤ C
              · -- in place, the old row being dead
                have hC0 : C ≠ 0 := by omega
                obtain rfl := g4.resolve_right hC0
                obtain ⟨hrw, hb, arr, T, vs, o2, o3, o3', o4, o5⟩ := S.obj id L _ hl hcs
                have g5' := g5 hrw
                rw [hq] at g5'
                have e1 : n * i.size + m * i.size = (n + m) * i.size := (Nat.add_mul _ _ _).symm
                have e2 : (n + m) * i.size ≤ C * i.size := Nat.mul_le_mul_right _ hroom
                have hnl' := hnr.length
                have hol' := hor.length
                have hst := run_storeCells_at P L.block (L.base + off + n * i.size) T new' 0 arr w o2 (by omega) (hnr.oneCell hone)
                have hstc : cellsAt H id off (n * i.size) = some old := by
                  have := hoS
                  unfold sliceCells at this
                  simp only at this
                  obtain ⟨x, hx1, hx2⟩ := this
                  rw [hx1, hx2]
                let w' := w.setRow L.block (arr.toList.take (L.base + off + n * i.size + 0) ++ new' ++ arr.toList.drop (L.base + off + n * i.size + 0 + new'.length)).toArray
                let L' : Loc := ⟨L.block, L.base + off, L.size, true⟩
                have Sk : Sim β (newO (H.set id .dead) (.cells (old ++ new) true)) w := (S.kill id).ghost _
                have hid : (newO (H.set id IObj.dead) (IObj.cells (old ++ new) true))[Pol.pos H]? = some (.cells (old ++ new) true) := by rw [← Pol.kill H id cs hcs]; exact newO_self _ _
                have hun := S.unplaced
                have hother : ∀ k, k ≠ L.block → w'.heap[k]? = w.heap[k]? := fun k hk => setRow_other w _ k _ hk
                have hbel : Below β.w0.heap.size w w' := below_setRow (Below.refl _ _) hb _
                -- the cells as they lie now
                have hwithin : cs.length ≥ off + n * i.size := by
                  unfold cellsAt at hstc
                  rw [hcs] at hstc
                  simp only at hstc
                  split at hstc
                  · omega
                  · cases hstc
                have hold : old = (cs.drop off).take (n * i.size) := by
                  unfold cellsAt at hstc
                  rw [hcs] at hstc
                  simp only at hstc
                  split at hstc
                  all_goals first
                    | exact (Option.some.inj hstc).symm
                    | cases hstc
                have hfit2 : L.base + off + n * i.size + new'.length ≤ arr.size := by omega
                have hO : ORel (β.with (Pol.pos H) L').loc β.w0 w' L' (.cells (old ++ new) true) := by
                  have hvold : VsRel β.loc old ((vs.drop off).take (n * i.size)) := by rw [hold]; exact (o4.drop off).take _
                  refine ⟨rfl, hb, _, T, (vs.drop off).take (n * i.size) ++ new', setRow_heap w _ arr _ T _ o2, ?_, ?_, (hvold.append hnr).mono (Emb.with_le _ hun.1).2, fun j v hj => ?_⟩
                  · show (arr.toList.take (L.base + off + n * i.size + 0) ++ new' ++ arr.toList.drop (L.base + off + n * i.size + 0 + new'.length)).toArray.size = L.size
                    simp only [List.size_toArray, List.length_append, List.length_take, List.length_drop, Array.length_toList]
                    omega
                  · show L.base + off + (old ++ new).length ≤ L.size
                    rw [List.length_append, hol, hnl]
                    omega
                  · have hj' := get_lt hj
                    have hvl : vs.length = cs.length := o4.length
                    have htk : ((vs.drop off).take (n * i.size)).length = n * i.size := by simp; omega
                    show ((arr.toList.take (L.base + off + n * i.size + 0) ++ new' ++ arr.toList.drop (L.base + off + n * i.size + 0 + new'.length)).toArray)[L.base + off + j]? = some v
                    have e : ((arr.toList.take (L.base + off + n * i.size + 0) ++ new' ++ arr.toList.drop (L.base + off + n * i.size + 0 + new'.length)).toArray)[L.base + off + j]? = (splice arr.toList (L.base + off + n * i.size) new')[L.base + off + j]? := by
                      simp [splice]
                    rw [e, splice_get (by simp; omega)]
                    rw [List.length_append, htk] at hj'
                    by_cases c1 : j < n * i.size
                    · rw [if_pos (by omega)]
                      rw [List.getElem?_append_left (by omega), List.getElem?_take, if_pos c1, List.getElem?_drop] at hj
                      have := o5 (off + j) v hj
                      rw [← Nat.add_assoc] at this
                      simpa using this
                    · rw [if_neg (by omega), if_pos (by omega)]
                      rw [List.getElem?_append_right (by omega), htk] at hj
                      rwa [show L.base + off + j - (L.base + off + n * i.size) = j - n * i.size by omega]
                have Sp : Sim (β.with (Pol.pos H) L') (newO (H.set id .dead) (.cells (old ++ new) true)) w' := Sk.place hid hun L' hbel (fun k hk _ => hother k hk) (fun j lj oj a1 a2 a3 => by
                  intro he
                  have hne : j ≠ Pol.pos H := by
                    intro e
                    rw [e, hun.1] at a1
                    cases a1
                  rw [newO_other _ _ (by rw [Pol.kill H id cs hcs]; exact hne)] at a2
                  by_cases e : id = j
                  · subst e
                    rw [List.getElem?_set] at a2
                    simp at a2
                    rw [← a2.2] at a3
                    cases a3
                  · rw [List.getElem?_set_ne e] at a2
                    exact e (S.inj id j L lj _ oj hl a1 hcs a2 rfl a3 he.symm)) hO (Nat.lt_of_lt_of_le (S.blk id L hl) hbel.size) hbel.size
                refine ⟨.slice (some ⟨L.block, L.base + off, none⟩) (n + m) C, w', stay hroom _ (fun a0 ha0 => ?_) (fun hA => by cases hA), β.with (Pol.pos H) L', _, newSlice H (n + m) i.size, ⟨Emb.with_le _ hun.1, by simp [w'], fun j l' hj => ?_, fun k _ hk2 => hother k fun e => hk2 id L hl e.symm⟩, Sp, ?_, hk⟩
                · cases ha0
                  rw [addr_add, hst]
                  rfl
                · by_cases e : j = Pol.pos H
                  · subst e
                    rw [Emb.with_self] at hj
                    cases hj
                    exact .inl ⟨id, L, hl, rfl⟩
                  · exact .inl ⟨j, l', by simpa [Emb.with, e] using hj, rfl⟩
                · have hq2 : 2 * i.size / 2 = i.size := by omega
                  exact .slice (l := L') (Emb.with_self _ _ _) (Nat.le_refl _) hroom (fun h => by omega) (.inl rfl) (fun _ => by
                    show L.base + off + C * (2 * i.size / 2) ≤ L.size
                    rw [hq2]
                    exact g5')
              · obtain ⟨v', w', β', q1, q2, q3, q4⟩ := grow_gives S (ty := ty) hu hu' hi h1 hz hzc hzl (S.kill id) (by omega) hby hmx ho hn hor hnr hol hnl
                rw [Pol.kill H id cs hcs] at q4
                exact ⟨v', w', q1, β', _, _, q2, q3, q4, hk⟩
      · exact hk.elim
  · exact h.elim

end
end Ide
