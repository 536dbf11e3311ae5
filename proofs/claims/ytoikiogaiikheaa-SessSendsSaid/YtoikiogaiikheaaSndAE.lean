/- Maps. -/
import Derived.Test.YtoikiogaiikheaaSndAD
import Derived.WideKeyRuns
set_option linter.unusedSectionVars false
set_option linter.unusedVariables false
set_option linter.unusedSimpArgs false
namespace Ide
open Go Go.RowKit
variable [Pol]

section
variable {P : Program} {β : Emb} {H : IHeap} {w : World}

/-! ### keys -/
theorem eqB_drop_self {l : List TypeId} {xs : List Value} {b : Bool} (h : eqB P l xs xs = some b) : xs.length = l.length := (eqB_lengths h).1

/-- Cells whose kinds are those of the types. -/
def Kinds (P : Program) (l : List TypeId) (xs : List Value) : Prop := ∃ b, eqB P l xs xs = some b

theorem Kinds.append {l r : List TypeId} {xs : List Value} (h : Kinds P (l ++ r) xs) : Kinds P l (xs.take l.length) ∧ Kinds P r (xs.drop l.length) := by
  obtain ⟨b, h⟩ := h
  obtain ⟨b1, b2, h1, h2, _⟩ := eqB_append h
  exact ⟨⟨b1, h1⟩, ⟨b2, h2⟩⟩

theorem checkKey_flat (em : Bool) : ∀ (D : Nat) {t : TypeId} {l : List TypeId}, flat P D t = some l → ∀ (d : Nat), D ≤ d → ∀ {v : Value} {xs : List Value}, IsV P t v xs → Kinds P l xs → (Instr.checkKey em d t v).run P w = .ok () w := by
  intro D
  induction D with
  | zero => intro t l h; simp [flat] at h
  | succ D ih =>
    intro t l h d hd v xs hv hk
    obtain ⟨d, rfl⟩ : ∃ m, d = m + 1 := ⟨d - 1, by omega⟩
    cases hA : isAggT P t with
    | false =>
      obtain rfl := flat_one h hA
      simp only [IsV, hA] at hv
      subst hv
      obtain ⟨b, hb⟩ := hk
      simp only [eqB] at hb
      split at hb
      · rename_i c1 c2 h1 h2
        unfold eq1 at h1
        split at h1
        · rename_i hu _; simp [Instr.checkKey, run_und hu]
        · rename_i hu _; simp [Instr.checkKey, run_und hu]
        · rename_i hu _; simp [Instr.checkKey, run_und hu]
        · cases h1
      · cases hb
    | true =>
      simp only [IsV, hA] at hv
      subst hv
      have hfld : ∀ (fs : List Field) (off : Nat) (r : List TypeId), flatFs P (flat P D) fs off = some r → off ≤ xs.length → Kinds P r (xs.drop off) →
          (ForIn.forIn fs PUnit.unit (fun f (_ : PUnit) => if f.name ≠ "_" then do { let a ← Go.part f.type ⟨xs⟩ f.offset; Instr.checkKey em d f.type a; pure (ForInStep.yield PUnit.unit) } else pure (ForInStep.yield PUnit.unit) : _ → _ → Sem (ForInStep PUnit))).run P w = .ok PUnit.unit w := by
        intro fs
        induction fs with
        | nil => intro off r _ _ _; simp
        | cons f fs ihf =>
          intro off r hr hox hk
          simp only [flatFs] at hr
          split at hr
          · rename_i l1 r1 g1 g2
            cases hc : (Nat.beq f.offset off && Nat.beq (ssz P f.type) l1.length && !(f.name == "_")) with
            | false => simp [hc] at hr
            | true =>
              simp only [hc, cond_true, Option.some.injEq] at hr
              subst hr
              simp only [Bool.and_eq_true, Bool.not_eq_true'] at hc
              obtain ⟨⟨ho, hs⟩, hn⟩ := hc
              have ho := Nat.eq_of_beq_eq_true ho
              have hs := Nat.eq_of_beq_eq_true hs
              have hn' : f.name ≠ "_" := by simpa using hn
              obtain ⟨k1, k2⟩ := hk.append
              obtain ⟨b, hb⟩ := hk
              have lx := (eqB_lengths hb).1
              simp at lx
              rw [← hs] at k1 k2
              obtain ⟨df, hdf⟩ := flat_und g1
              have hone : isAggT P f.type = false → ssz P f.type = 1 := fun ha => by rw [hs, flat_one g1 ha]; rfl
              obtain ⟨v1, p1, q1⟩ := run_part (w := w) (xs := xs) (off := off) hdf (by omega) hone
              have hck := ih g1 d (by omega) q1 k1
              have hrest := ihf (off + ssz P f.type) r1 g2 (by omega) (by rw [← List.drop_drop]; exact k2)
              simp only [List.forIn_cons, Sem.run_bind, hn', ne_eq, not_false_eq_true, if_true, ho, p1, hck, Result.andThen_ok, Sem.run_pure]
              exact hrest
          · cases hr
      unfold flat at h
      split at h
      · rename_i k hk; simp [isAggT, hk] at hA
      · rename_i hk; simp [isAggT, hk] at hA
      · rename_i hk; simp [isAggT, hk] at hA
      · rename_i fs hfs
        cases hh : P.stoodInHeld t with
        | true => simp [hh] at h
        | false =>
          simp only [hh, cond_false] at h
          rw [Instr.checkKey]
          simp only [Sem.run_bind, run_und hfs, Result.andThen_ok]
          have := hfld fs 0 l h (by simp) (by simpa using hk)
          rw [← Array.forIn_toList, this]
          rfl
      · rename_i n e hne
        split at h
        · rename_i le g1
          cases hc : (Nat.beq (ssz P e) le.length && Nat.beq (P.cellsOf e) le.length) with
          | false => simp [hc] at h
          | true =>
            simp only [hc, cond_true, Option.some.injEq] at h
            simp only [Bool.and_eq_true] at hc
            have hc1 := Nat.eq_of_beq_eq_true hc.1
            obtain ⟨df, hdf⟩ := flat_und g1
            obtain ⟨i, hi⟩ := info_of_underlying hdf
            have hone : isAggT P e = false → ssz P e = 1 := fun ha => by rw [hc1, flat_one g1 ha]; rfl
            rw [Instr.checkKey]
            simp only [Sem.run_bind, run_und hne, Result.andThen_ok]
            simp only [Std.Legacy.Range.forIn_eq_forIn_range', Std.Legacy.Range.size, Nat.sub_zero, Nat.add_one_sub_one, Nat.div_one]
            have key : ∀ (n k : Nat), k * le.length ≤ xs.length → Kinds P ((List.replicate n le).flatten) (xs.drop (k * le.length)) → ∀ j, k ≤ j → j < k + n → ∃ a, (Go.part e ⟨xs⟩ (j * i.size)).run P w = .ok a w ∧ (Instr.checkKey em d e a).run P w = .ok () w := by
              intro n
              induction n with
              | zero => intro k _ _ j h1 h2; omega
              | succ n ihn =>
                intro k hkx hkk j h1 h2
                rw [List.replicate_succ, List.flatten_cons] at hkk
                obtain ⟨k1, k2⟩ := hkk.append
                obtain ⟨b, hb⟩ := hkk
                have lx := (eqB_lengths hb).1
                simp at lx
                by_cases e0 : j = k
                · subst e0
                  obtain ⟨v1, p1, q1⟩ := run_part (w := w) (xs := xs) (off := j * le.length) hdf (by omega) hone
                  rw [hc1] at q1
                  refine ⟨v1, ?_, ih g1 d (by omega) q1 k1⟩
                  rw [← ssz_of hi, hc1]
                  exact p1
                · exact ihn (k + 1) (by rw [Nat.succ_mul]; omega) (by rw [Nat.succ_mul, ← List.drop_drop]; exact k2) j (by omega) (by omega)
            have all := key n 0 (by simp) (by subst h; simpa using hk)
            have fin : ∀ (is : List Nat), (∀ j ∈ is, ∃ a, (Go.part e ⟨xs⟩ (j * i.size)).run P w = .ok a w ∧ (Instr.checkKey em d e a).run P w = .ok () w) →
                (ForIn.forIn is PUnit.unit (fun j (_ : PUnit) => do Instr.checkKey em d e (← Go.part e ⟨xs⟩ (j * (← Go.sizeOf e))); pure (ForInStep.yield PUnit.unit) : _ → _ → Sem (ForInStep PUnit))).run P w = .ok PUnit.unit w := by
              intro is
              induction is with
              | nil => intro _; simp
              | cons j is ihi =>
                intro hall
                obtain ⟨a, p1, p2⟩ := hall j (by simp)
                simp only [List.forIn_cons, Sem.run_bind, run_sz hi, Result.andThen_ok, p1, p2, Sem.run_pure]
                exact ihi (fun y hy => hall y (by simp [hy]))
            have := fin (List.range' 0 n) (fun j hj => all j (by omega) (by simp at hj; omega))
            rw [this]
            rfl
        · cases h
      · cases h

theorem keq_isV {t : TypeId} {x y : Value} {b : Bool} (h : keq P t x y = some b) : ∃ l xs ys, flat P 10 t = some l ∧ IsV P t x xs ∧ IsV P t y ys ∧ eqB P l xs ys = some b := by
  unfold keq at h
  split at h
  · rename_i l xs ys hl
    cases hA : isAggT P t with
    | false => simp [hA] at h
    | true =>
      simp only [hA, cond_true] at h
      exact ⟨l, xs, ys, hl, by simp [IsV, hA], by simp [IsV, hA], h⟩
  · rename_i l hl _
    cases hA : isAggT P t with
    | true => simp [hA] at h
    | false =>
      simp only [hA, cond_false] at h
      exact ⟨l, [_], [_], by assumption, by simp [IsV, hA], by simp [IsV, hA], h⟩
  · cases h

theorem isV_unique {t : TypeId} {v : Value} {xs ys : List Value} (h : IsV P t v xs) (h' : IsV P t v ys) : xs = ys := by
  unfold IsV at h h'
  split at h <;> simp_all

theorem run_equal_keq {t : TypeId} {x y : Value} {b : Bool} (h : keq P t x y = some b) : (Op.equal t x y).run P w = .ok b w := by
  obtain ⟨l, xs, ys, hl, hx, hy, hb⟩ := keq_isV h
  exact equalIn_flat 10 hl 10000 (by omega) hx hy hb

theorem checkKey_ok {t : TypeId} {k : Value} (em : Bool) (h : keyOk P t k = true) : (Instr.checkKey em 10000 t k).run P w = .ok () w := by
  unfold keyOk at h
  simp only [Bool.and_eq_true] at h
  obtain ⟨b, hb⟩ := Option.isSome_iff_exists.1 h.1
  obtain ⟨l, xs, ys, hl, hx, hy, hb⟩ := keq_isV hb
  obtain rfl := isV_unique hx hy
  exact checkKey_flat em 10 hl 10000 (by omega) hx ⟨b, hb⟩

/-- Where a key is found. -/
inductive Found (P : Program) (t : TypeId) (k : Value) : List MapEntry → Option (Nat × MapEntry) → Prop
  | nil : Found P t k [] none
  | here {e : MapEntry} {es : List MapEntry} (h : keq P t k e.key = some true) : Found P t k (e :: es) (some (0, e))
  | there {e : MapEntry} {es : List MapEntry} {i : Nat} {x : MapEntry} (h : keq P t k e.key = some false) (r : Found P t k es (some (i, x))) : Found P t k (e :: es) (some (i + 1, x))
  | miss {e : MapEntry} {es : List MapEntry} (h : keq P t k e.key = some false) (r : Found P t k es none) : Found P t k (e :: es) none

theorem findE_found {t : TypeId} {k : Value} : ∀ {es : List MapEntry} {r : Option MapEntry}, findE P t k es = some r → ∃ o, Found P t k es o ∧ o.map (·.2) = r
  | [], r, h => by simp [findE] at h; subst h; exact ⟨none, .nil, rfl⟩
  | e :: es, r, h => by
    simp only [findE] at h
    split at h
    · rename_i hk
      simp only [Option.some.injEq] at h
      subst h
      exact ⟨some (0, e), .here hk, rfl⟩
    · rename_i hk
      obtain ⟨o, ho, hr⟩ := findE_found h
      cases o with
      | none => exact ⟨none, .miss hk ho, hr⟩
      | some p => exact ⟨some (p.1 + 1, p.2), .there hk ho, by simpa using hr⟩
    · cases h

theorem Found.get {t : TypeId} {k : Value} : ∀ {es : List MapEntry} {i : Nat} {x : MapEntry}, Found P t k es (some (i, x)) → es[i]? = some x
  | _, _, _, .here _ => rfl
  | _, _, _, .there _ r => by simpa using r.get

theorem EsRel.get {L : LMap} : ∀ {a b : List MapEntry}, EsRel L a b → ∀ {i : Nat} {x : MapEntry}, a[i]? = some x → ∃ y, b[i]? = some y ∧ y.key = x.key ∧ ground x.key = true ∧ y.born = x.born ∧ VRel L x.val y.val
  | [], [], _, i, x, h => by simp at h
  | e :: a, e' :: b, ⟨h1, h2, h3, h4, h5⟩, 0, x, h => by simp at h; subst h; exact ⟨e', by simp, h1, h2, h3, h4⟩
  | e :: a, e' :: b, ⟨_, _, _, _, h5⟩, i + 1, x, h => by obtain ⟨y, h⟩ := EsRel.get h5 (show a[i]? = some x by simpa using h); exact ⟨y, by simpa using h⟩

theorem EsRel.length {L : LMap} : ∀ {a b : List MapEntry}, EsRel L a b → b.length = a.length
  | [], [], _ => rfl
  | _ :: _, _ :: _, ⟨_, _, _, _, h⟩ => congrArg (· + 1) (EsRel.length h)
  | [], _ :: _, h => h.elim
  | _ :: _, [], h => h.elim

theorem findAsking_sound {L : LMap} {t : TypeId} {k : Value} : ∀ {es es' : List MapEntry} {o : Option (Nat × MapEntry)}, EsRel L es es' → Found P t k es o → ∀ n,
    ∃ r, (Instr.findAsking t k es' n).run P w = .ok r w ∧ (match o with | none => r = none | some (i, _) => ∃ y, es'[i]? = some y ∧ r = some (n + i, y.val))
  | [], [], _, _, .nil, n => ⟨none, by simp [Instr.findAsking], rfl⟩
  | [], _ :: _, _, h, _, _ => h.elim
  | _ :: _, [], _, h, _, _ => h.elim
  | e :: es, e' :: es', _, ⟨h1, _, _, _, h5⟩, .here hk, n => by
    rw [← h1] at hk
    exact ⟨some (n, e'.val), by simp [Instr.findAsking, run_equal_keq hk], e', by simp, by simp⟩
  | e :: es, e' :: es', _, ⟨h1, _, _, _, h5⟩, .there hk r, n => by
    rw [← h1] at hk
    obtain ⟨r', q1, y, q2, q3⟩ := findAsking_sound h5 r (n + 1)
    exact ⟨r', by simp [Instr.findAsking, run_equal_keq hk, q1], y, by simpa using q2, by rw [q3]; congr 2; omega⟩
  | e :: es, e' :: es', _, ⟨h1, _, _, _, h5⟩, .miss hk r, n => by
    rw [← h1] at hk
    obtain ⟨r', q1, q2⟩ := findAsking_sound h5 r (n + 1)
    exact ⟨r', by simp [Instr.findAsking, run_equal_keq hk, q1], q2⟩

theorem sameNow_keq {t : TypeId} {d : TypeDesc} {x y : Value} {b : Bool} (hd : P.underlying t = some d) (hA : isAggT P t = false) (h : keq P t x y = some b) : Instr.sameNow d x y = some b := by
  obtain ⟨l, xs, ys, hl, hx, hy, hb⟩ := keq_isV h
  obtain rfl := flat_one hl hA
  simp only [IsV, hA] at hx hy
  subst hx; subst hy
  simp only [eqB] at hb
  split at hb
  · rename_i c1 c2 h1 h2
    simp only [Option.some.injEq] at h2 hb
    subst h2; subst hb
    rw [Bool.and_true]
    unfold eq1 at h1
    rw [hd] at h1
    split at h1
    · rename_i k0 k a j c hu
      simp only [Option.some.injEq] at hu
      subst hu
      cases hk : kbeq k j with
      | false => simp [hk] at h1
      | true =>
        obtain rfl := kbeq_eq hk
        simp only [hk, cond_true, Option.some.injEq] at h1
        simp [Instr.sameNow, h1]
    · rename_i hu
      simp only [Option.some.injEq] at hu h1
      subst hu
      simp [Instr.sameNow, h1]
    · rename_i hu
      simp only [Option.some.injEq] at hu h1
      subst hu
      simp [Instr.sameNow, ← h1, beq_toListBytes]
    · cases h1
  · cases hb

theorem findNow_sound {L : LMap} {t : TypeId} {d : TypeDesc} (hd : P.underlying t = some d) (hA : isAggT P t = false) {k : Value} : ∀ {es es' : List MapEntry} {o : Option (Nat × MapEntry)}, EsRel L es es' → Found P t k es o → ∀ n,
    ∃ r, Instr.findNow d k es' n = some r ∧ (match o with | none => r = none | some (i, _) => ∃ y, es'[i]? = some y ∧ r = some (n + i, y.val))
  | [], [], _, _, .nil, n => ⟨none, by simp [Instr.findNow], rfl⟩
  | [], _ :: _, _, h, _, _ => h.elim
  | _ :: _, [], _, h, _, _ => h.elim
  | e :: es, e' :: es', _, ⟨h1, _, _, _, h5⟩, .here hk, n => by
    rw [← h1] at hk
    exact ⟨some (n, e'.val), by simp [Instr.findNow, sameNow_keq hd hA hk], e', by simp, by simp⟩
  | e :: es, e' :: es', _, ⟨h1, _, _, _, h5⟩, .there hk r, n => by
    rw [← h1] at hk
    obtain ⟨r', q1, y, q2, q3⟩ := findNow_sound hd hA h5 r (n + 1)
    exact ⟨r', by simp [Instr.findNow, sameNow_keq hd hA hk, q1], y, by simpa using q2, by rw [q3]; congr 2; omega⟩
  | e :: es, e' :: es', _, ⟨h1, _, _, _, h5⟩, .miss hk r, n => by
    rw [← h1] at hk
    obtain ⟨r', q1, q2⟩ := findNow_sound hd hA h5 r (n + 1)
    exact ⟨r', by simp [Instr.findNow, sameNow_keq hd hA hk, q1], q2⟩

/-- The machine finds a key where the ideal map has it. -/
theorem findKey_sound {L : LMap} {t : TypeId} {k : Value} (hk : keyOk P t k = true) {es es' : List MapEntry} {o : Option (Nat × MapEntry)} (hr : EsRel L es es') (hf : Found P t k es o) :
    ∃ r, (Instr.findKey t k es').run P w = .ok r w ∧ (match o with | none => r = none | some (i, _) => ∃ y, es'[i]? = some y ∧ r = some (i, y.val)) := by
  unfold keyOk at hk
  simp only [Bool.and_eq_true] at hk
  obtain ⟨b, hb⟩ := Option.isSome_iff_exists.1 hk.1
  obtain ⟨l, xs, ys, hl, hx, hy, hb⟩ := keq_isV hb
  obtain ⟨d, hd⟩ := flat_und hl
  cases hA : isAggT P t with
  | false =>
    obtain ⟨r, q1, q2⟩ := findNow_sound hd hA hr hf 0
    refine ⟨r, ?_, ?_⟩
    · unfold Instr.findKey
      simp [run_und hd, q1]
    · cases o with
      | none => exact q2
      | some p => simpa using q2
  | true =>
    obtain ⟨r, q1, q2⟩ := findAsking_sound (P := P) (w := w) hr hf 0
    refine ⟨r, ?_, ?_⟩
    · rw [run_findKey_eq w (by unfold isAggT at hA; rw [hd] at hA ⊢; cases d <;> simp_all) k es', q1]
    · cases o with
      | none => exact q2
      | some p => simpa using q2

theorem run_getObj {r : Nat} {o : Obj} (h : w.heap[r]? = some o) (hc : (match o with | .cells .. => False | _ => True)) : (Go.getObj r).run P w = .ok o w := by
  unfold Go.getObj
  simp only [Sem.run, h]
  cases o <;> first | rfl | exact hc.elim

theorem run_setObj {r : Nat} {o o' : Obj} (h : w.heap[r]? = some o) (hc : (match o with | .cells .. => False | _ => True)) : (Go.setObj r o').run P w = .ok () { w with heap := w.heap.setIfInBounds r o' } := by
  unfold Go.setObj
  simp only [Sem.run, h]
  cases o <;> first | rfl | exact hc.elim

theorem heap_set_self {r : Nat} {o o' : Obj} (h : w.heap[r]? = some o) : ({ w with heap := w.heap.setIfInBounds r o' } : World).heap[r]? = some o' := by
  have := (Array.getElem?_eq_some_iff.1 h).1
  show (w.heap.setIfInBounds r o')[r]? = _
  simp [this]
theorem heap_set_other {r k : Nat} {o' : Obj} (h : k ≠ r) : ({ w with heap := w.heap.setIfInBounds r o' } : World).heap[k]? = w.heap[k]? := by
  show (w.heap.setIfInBounds r o')[k]? = _
  rw [Array.getElem?_setIfInBounds_ne (by omega)]

/-- An object that is no cells is put in the place of another. -/
theorem Sim.setObj (S : Sim β H w) {id : Nat} {l : Loc} {o o' : IObj} {x x' : Obj} (hid : β.loc id = some l) (ho : H[id]? = some o) (hown : o.own = true) (hx : w.heap[l.block]? = some x) (hO : ∀ W : World, W.heap[l.block]? = some x' → ORel β.loc β.w0 W l o') :
    Step β w β { w with heap := w.heap.setIfInBounds l.block x' } ∧ Sim β (H.set id o') { w with heap := w.heap.setIfInBounds l.block x' } := by
  have hge := ((S.obj id l o hid ho).block_lt hown).2
  have hother : ∀ k, k ≠ l.block → ({ w with heap := w.heap.setIfInBounds l.block x' } : World).heap[k]? = w.heap[k]? := fun k hk => heap_set_other hk
  refine ⟨Step.write hid (by simp) hother, S.write hid ho hown ⟨rfl, rfl, rfl, by simp, fun k hk => hother k (by omega)⟩ hother (hO _ (heap_set_self hx))⟩

theorem setVal_found {t : TypeId} {k v : Value} : ∀ {es : List MapEntry} {i : Nat} {x : MapEntry}, Found P t k es (some (i, x)) → setVal P t k v es = es.set i { x with key := k, val := v }
  | _, _, _, .here h => by simp [setVal, h]
  | _, _, _, .there h r => by simp [setVal, h, setVal_found r]

theorem eraseE_found {t : TypeId} {k : Value} : ∀ {es : List MapEntry} {o : Option (Nat × MapEntry)}, Found P t k es o → eraseE P t k es = (match o with | none => es | some (i, _) => es.eraseIdx i)
  | _, _, .nil => rfl
  | _, _, .here h => by simp [eraseE, h]
  | _, _, .there h r => by simp [eraseE, h, eraseE_found r]
  | _, _, .miss h r => by simp [eraseE, h, eraseE_found r]

theorem EsRel.set {L : LMap} : ∀ {a b : List MapEntry}, EsRel L a b → ∀ (i : Nat) {x y : MapEntry}, y.key = x.key → ground x.key = true → y.born = x.born → VRel L x.val y.val → EsRel L (a.set i x) (b.set i y)
  | [], [], _, _, _, _, _, _, _, _ => trivial
  | _ :: _, _ :: _, ⟨_, _, _, _, h⟩, 0, _, _, h1, h2, h3, h4 => ⟨h1, h2, h3, h4, h⟩
  | _ :: _, _ :: _, ⟨g1, g2, g3, g4, h⟩, i + 1, _, _, h1, h2, h3, h4 => ⟨g1, g2, g3, g4, EsRel.set h i h1 h2 h3 h4⟩
  | [], _ :: _, h, _, _, _, _, _, _, _ => h.elim
  | _ :: _, [], h, _, _, _, _, _, _, _ => h.elim

theorem EsRel.eraseIdx {L : LMap} : ∀ {a b : List MapEntry}, EsRel L a b → ∀ (i : Nat), EsRel L (a.eraseIdx i) (b.eraseIdx i)
  | [], [], _, _ => trivial
  | _ :: _, _ :: _, ⟨_, _, _, _, h⟩, 0 => h
  | _ :: _, _ :: _, ⟨g1, g2, g3, g4, h⟩, i + 1 => ⟨g1, g2, g3, g4, EsRel.eraseIdx h i⟩
  | [], _ :: _, h, _ => h.elim
  | _ :: _, [], h, _ => h.elim

theorem EsRel.snoc {L : LMap} : ∀ {a b : List MapEntry}, EsRel L a b → ∀ {x y : MapEntry}, y.key = x.key → ground x.key = true → y.born = x.born → VRel L x.val y.val → EsRel L (a ++ [x]) (b ++ [y])
  | [], [], _, _, _, h1, h2, h3, h4 => ⟨h1, h2, h3, h4, trivial⟩
  | _ :: _, _ :: _, ⟨g1, g2, g3, g4, h⟩, _, _, h1, h2, h3, h4 => ⟨g1, g2, g3, g4, EsRel.snoc h h1 h2 h3 h4⟩
  | [], _ :: _, h, _, _, _, _, _, _ => h.elim
  | _ :: _, [], h, _, _, _, _, _, _ => h.elim

end
end Ide

/- Maps, lengths, copies; and the other small operations. -/
set_option linter.unusedVariables false
set_option linter.unusedSimpArgs false
namespace Ide
open Go Go.RowKit
variable [Pol]

section
variable {P : Program} {β : Emb} {H : IHeap} {w : World}

theorem map_obj (S : Sim β H w) {r : Nat} {l : Loc} {es : List MapEntry} {clock : Nat} (hl : β.loc r = some l) (hr : H[r]? = some (.map es clock)) :
    ∃ es' : Array MapEntry, w.heap[l.block]? = some (.map es' clock) ∧ EsRel β.loc es es'.toList ∧ (Go.getObj l.block).run P w = .ok (.map es' clock) w := by
  obtain ⟨_, es', h1, h2⟩ := S.obj r l _ hl hr
  exact ⟨es', h1, h2, run_getObj h1 trivial⟩

theorem mapLook_sound (S : Sim β H w) {m : Option Nat} {m' : Value} {K : List MapEntry → Prop} (hm : VRel β.loc (.map m) m') (h : mapLook H m K) :
    ∃ (es : List MapEntry) (es' : Array MapEntry), EsRel β.loc es es'.toList ∧ K es ∧ ((m = none ∧ m' = .map none ∧ es = [] ∧ es' = #[]) ∨ ∃ b clock, m' = .map (some b) ∧ (Go.getObj b).run P w = .ok (.map es' clock) w) := by
  unfold mapLook at h
  rcases hm.inv_map with ⟨rfl, rfl⟩ | ⟨id, l, rfl, hl, rfl⟩
  · exact ⟨[], #[], trivial, h, .inl ⟨rfl, rfl, rfl, rfl⟩⟩
  · obtain ⟨es, clock, h1, h2⟩ := h
    obtain ⟨es', g1, g2, g3⟩ := map_obj (P := P) S hl h1
    exact ⟨es, es', g2, h2, .inr ⟨l.block, clock, rfl, g3⟩⟩

theorem keyOk_ground {t : TypeId} {k : Value} (h : keyOk P t k = true) : ground k = true := by
  unfold keyOk at h
  simp only [Bool.and_eq_true] at h
  exact h.2

theorem lookup_pg (S : Sim β H w) {t : TypeId} {m m' k k' : Value} {ok : Bool} {K : Value → Prop} (hm : VRel β.loc m m') (hk : VRel β.loc k k') (h : lookup P t H m k ok K) : PG β w P K (Instr.lookup t m' k' ok) := by
  unfold lookup at h
  split at h
  · rename_i kt et r hu
    split at h
    · rename_i z hz
      obtain ⟨hko, h⟩ := h
      obtain rfl := hk.eq_of_ground (keyOk_ground hko)
      obtain ⟨es, es', h1, h2, h3⟩ := mapLook_sound (P := P) S hm h
      obtain ⟨i, hi, hzz, hg⟩ := zeroV_spec hz
      have fin : ∀ (o : Option (Nat × Value)) (v v' : Value) (b : Bool), (Instr.findKey kt k' es'.toList).run P w = .ok o w → VRel β.loc v v' → ((o = none ∧ b = false ∧ i.zero = some v') ∨ (∃ j, o = some (j, v') ∧ b = true)) →
          K (okV ok v b) → PG β w P K (Instr.lookup t m' k' ok) := by
        intro o v v' b hf hv ho hK
        refine ⟨if ok then .tuple #[v', .bool b] else v', _, ?_, ?_, hK⟩
        · unfold Instr.lookup
          rcases h3 with ⟨_, rfl, _, rfl⟩ | ⟨b, clock, rfl, hb⟩
          · simp only [Sem.run_bind, run_und hu, Result.andThen_ok, Sem.run_pure]
            rw [checkKey_ok _ hko]
            simp only [Result.andThen_ok, hf]
            rcases ho with ⟨rfl, rfl, hzv⟩ | ⟨j, rfl, rfl⟩
            · simp only [Sem.run_bind, run_zero hi hzv, Result.andThen_ok, Sem.run_pure]
            · simp only [Sem.run_bind, Result.andThen_ok, Sem.run_pure]
          · simp only [Sem.run_bind, run_und hu, Result.andThen_ok, Sem.run_pure, hb]
            rw [checkKey_ok _ hko]
            simp only [Result.andThen_ok, hf]
            rcases ho with ⟨rfl, rfl, hzv⟩ | ⟨j, rfl, rfl⟩
            · simp only [Sem.run_bind, run_zero hi hzv, Result.andThen_ok, Sem.run_pure]
            · simp only [Sem.run_bind, Result.andThen_ok, Sem.run_pure]
        · cases ok
          · exact hv
          · exact .tuple (.cons hv (.cons (.bool _) .nil))
      unfold lookE at h2
      split at h2
      · rename_i e he
        obtain ⟨o, ho, hoe⟩ := findE_found he
        cases o with
        | none => cases hoe
        | some p =>
          obtain ⟨j, x⟩ := p
          simp only [Option.map_some, Option.some.injEq] at hoe
          subst hoe
          obtain ⟨r', q1, y, q2, q3⟩ := findKey_sound (w := w) hko h1 ho
          obtain ⟨y', g1, g2, g3, g4, g5⟩ := h1.get ho.get
          rw [q2] at g1
          cases g1
          exact fin _ x.val y.val true q1 g5 (.inr ⟨j, q3, rfl⟩) (shaped_sound (K := fun v => K (okV ok v true)) h2)
      · rename_i he
        obtain ⟨o, ho, hoe⟩ := findE_found he
        cases o with
        | some p => cases hoe
        | none =>
          obtain ⟨r', q1, q2⟩ := findKey_sound (w := w) hko h1 ho
          exact fin _ z z false q1 (VRel.of_ground _ _ hg) (.inl ⟨q2, rfl, hzz⟩) h2
      · exact h2.elim
    · exact h.elim
  · exact h.elim

theorem sameBits_ground : ∀ (n : Nat) (v : Value), True := fun _ _ => trivial

/-- The key that stays: two keys that are equal and ground are the same bits. -/
theorem run_keyThatStays {t : TypeId} {x y : Value} (h : keq P t x y = some true) : ∃ k, (Instr.keyThatStays y x).run P w = .ok k w ∧ k = x := by
  obtain ⟨l, xs, ys, hl, hx, hy, hb⟩ := keq_isV h
  have leaf : ∀ {d : Option TypeDesc} {a b : Value} (n : Nat), eq1 d a b = some true → Instr.sameBits n b a = true := by
    intro d a b n h
    unfold eq1 at h
    split at h
    · rename_i k0 k a j c
      cases hk : kbeq k j with
      | false => simp [hk] at h
      | true =>
        obtain rfl := kbeq_eq hk
        simp only [hk, cond_true, Option.some.injEq, beq_iff_eq] at h
        subst h
        cases n <;> simp [Instr.sameBits]
    · simp only [Option.some.injEq, beq_iff_eq] at h
      subst h
      cases n <;> simp [Instr.sameBits]
    · simp only [Option.some.injEq, beq_iff_eq] at h
      cases n <;> simp [Instr.sameBits, beq_toListBytes, h]
    · cases h
  have list : ∀ (n : Nat) {l : List TypeId} {xs ys : List Value}, eqB P l xs ys = some true → (ys.zip xs).all (fun (x, y) => Instr.sameBits n x y) = true := by
    intro n l
    induction l with
    | nil => intro xs ys h; cases xs <;> cases ys <;> simp [eqB] at h ⊢
    | cons t l ih =>
      intro xs ys h
      cases xs with
      | nil => simp [eqB] at h
      | cons x xs =>
        cases ys with
        | nil => simp [eqB] at h
        | cons y ys =>
          simp only [eqB] at h
          split at h
          · rename_i c1 c2 h1 h2
            simp only [Option.some.injEq, Bool.and_eq_true] at h
            obtain ⟨rfl, rfl⟩ := h
            simp only [List.zip_cons_cons, List.all_cons, Bool.and_eq_true]
            exact ⟨leaf n h1, ih h2⟩
          · cases h
  have hs : Instr.sameBits 10000 y x = true := by
    cases hA : isAggT P t with
    | true =>
      simp only [IsV, hA] at hx hy
      subst hx; subst hy
      have hlen := eqB_lengths hb
      show Instr.sameBits (9999 + 1) _ _ = true
      unfold Instr.sameBits
      simp only [Bool.and_eq_true, beq_iff_eq, List.size_toArray]
      exact ⟨by omega, list 9999 hb⟩
    | false =>
      obtain rfl := flat_one hl hA
      simp only [IsV, hA] at hx hy
      subst hx; subst hy
      simp only [eqB] at hb
      split at hb
      · rename_i c1 c2 h1 h2
        simp only [Option.some.injEq, Bool.and_eq_true] at hb h2
        obtain ⟨rfl, _⟩ := hb
        exact leaf 10000 h1
      · cases hb
  refine ⟨x, ?_, rfl⟩
  unfold Instr.keyThatStays
  rw [if_pos hs]
  rfl

theorem mapUpdate_sound (S : Sim β H w) {t : TypeId} {m m' k k' v v' : Value} {K : IHeap → Prop} (hm : VRel β.loc m m') (hk : VRel β.loc k k') (hv : VRel β.loc v v') (h : mapUpdate P t H m k v K) :
    ∃ w' H', (Instr.mapUpdate t m' k' v').run P w = .ok () w' ∧ Step β w β w' ∧ Sim β H' w' ∧ K H' := by
  unfold mapUpdate at h
  split at h
  · rename_i kt et r hu
    obtain ⟨hko, es, clock, hr, h⟩ := h
    obtain rfl := hk.eq_of_ground (keyOk_ground hko)
    rcases hm.inv_map with ⟨h', _⟩ | ⟨id, l, h', hl, rfl⟩
    · cases h'
    · cases h'
      obtain ⟨es', g1, g2, g3⟩ := map_obj (P := P) S hl hr
      have hge := ((S.obj r l _ hl hr).block_lt rfl).2
      unfold putE at h
      split at h
      · rename_i e he
        obtain ⟨o, ho, hoe⟩ := findE_found he
        cases o with
        | none => cases hoe
        | some p =>
          obtain ⟨j, x⟩ := p
          simp only [Option.map_some, Option.some.injEq] at hoe
          subst hoe
          obtain ⟨r', q1, y, q2, q3⟩ := findKey_sound (w := w) hko g2 ho
          obtain ⟨y', p1, p2, p3, p4, p5⟩ := g2.get ho.get
          rw [q2] at p1
          cases p1
          have hkx : keq P kt k' x.key = some true := by
            have : ∀ {es : List MapEntry} {i : Nat} {x : MapEntry}, Found P kt k' es (some (i, x)) → keq P kt k' x.key = some true := by
              intro es
              induction es with
              | nil => intro i x h; cases h
              | cons e es ih => intro i x h; cases h with | here h => exact h | there _ r => exact ih r
            exact this ho
          rw [← p2] at hkx
          obtain ⟨kk, s1, hkk⟩ := run_keyThatStays (w := w) hkx
          rw [hkk] at s1
          have hn : es'.toList[j]? = some y := q2
          obtain ⟨St, Sm⟩ := S.setObj (x' := .map (es'.modify j fun e => { e with key := k', val := v' }) clock) hl hr rfl g1 (o' := .map (setVal P kt k' v es) clock) (fun W hW => ⟨hge, _, hW, by
            rw [setVal_found ho]
            have : (es'.modify j fun e => { e with key := k', val := v' }).toList = es'.toList.set j { y with key := k', val := v' } := by
              apply List.ext_getElem?
              intro a
              rw [List.getElem?_set]
              have hjl := get_lt hn
              by_cases e : j = a
              · subst e
                rw [if_pos rfl, if_pos hjl]
                simp only [Array.getElem?_toList, Array.getElem?_modify, if_pos]
                rw [Array.getElem?_toList] at hn
                rw [hn]
                rfl
              · rw [if_neg e]
                simp only [Array.getElem?_toList, Array.getElem?_modify, if_neg e]
            rw [this]
            exact g2.set j rfl (keyOk_ground hko) p4 hv⟩)
          refine ⟨_, _, ?_, St, Sm, h⟩
          unfold Instr.mapUpdate
          simp only [Sem.run_bind, run_und hu, Result.andThen_ok, g3, checkKey_ok _ hko, q1, q3]
          have hk2 : ((es'[j]?).map (·.key)).getD k' = y.key := by
            rw [Array.getElem?_toList] at hn
            rw [hn]
            rfl
          rw [hk2, s1]
          simp only [Result.andThen_ok]
          exact run_setObj g1 trivial
      · rename_i he
        obtain ⟨o, ho, hoe⟩ := findE_found he
        cases o with
        | some p => cases hoe
        | none =>
          obtain ⟨r', q1, q2⟩ := findKey_sound (w := w) hko g2 ho
          obtain ⟨St, Sm⟩ := S.setObj (x' := .map (es'.push { key := k', val := v', born := clock }) (clock + 1)) hl hr rfl g1 (o' := .map (es ++ [{ key := k', val := v, born := clock }]) (clock + 1)) (fun W hW => ⟨hge, _, hW, by
            rw [Array.toList_push]
            exact g2.snoc rfl (keyOk_ground hko) rfl hv⟩)
          refine ⟨_, _, ?_, St, Sm, h⟩
          unfold Instr.mapUpdate
          simp only [Sem.run_bind, run_und hu, Result.andThen_ok, g3, checkKey_ok _ hko, q1, q2]
          exact run_setObj g1 trivial
      · exact h.elim
  · exact h.elim

theorem mapDelete_sound (S : Sim β H w) {t u : TypeId} {m m' k k' : Value} {ts : List TypeId} {K : IHeap → Prop} (hm : VRel β.loc m m') (hk : VRel β.loc k k') (h : mapDelete P t H m k K) :
    ∃ w' H', (Builtin.delete_ ⟨t :: ts⟩ u #[m', k']).run P w = .ok (.tuple #[]) w' ∧ Step β w β w' ∧ Sim β H' w' ∧ K H' := by
  unfold mapDelete at h
  split at h
  · rename_i kt et r hu
    obtain ⟨hko, es, clock, hr, hf, h⟩ := h
    obtain rfl := hk.eq_of_ground (keyOk_ground hko)
    rcases hm.inv_map with ⟨h', _⟩ | ⟨id, l, h', hl, rfl⟩
    · cases h'
    · cases h'
      obtain ⟨es', g1, g2, g3⟩ := map_obj (P := P) S hl hr
      have hge := ((S.obj r l _ hl hr).block_lt rfl).2
      obtain ⟨e, he⟩ := Option.isSome_iff_exists.1 hf
      obtain ⟨o, ho, hoe⟩ := findE_found he
      obtain ⟨r', q1, q2⟩ := findKey_sound (w := w) hko g2 ho
      have hres : ∀ (x : Array MapEntry), EsRel β.loc (eraseE P kt k' es) x.toList → (Builtin.delete_ ⟨t :: ts⟩ u #[.map (some l.block), k']).run P w = .ok (.tuple #[]) { w with heap := w.heap.setIfInBounds l.block (.map x clock) } →
          ∃ w' H', (Builtin.delete_ ⟨t :: ts⟩ u #[.map (some l.block), k']).run P w = .ok (.tuple #[]) w' ∧ Step β w β w' ∧ Sim β H' w' ∧ K H' := by
        intro x hx hrun
        obtain ⟨St, Sm⟩ := S.setObj (x' := .map x clock) hl hr rfl g1 (o' := .map (eraseE P kt k' es) clock) (fun W hW => ⟨hge, _, hW, hx⟩)
        exact ⟨_, _, hrun, St, Sm, h⟩
      cases o with
      | none =>
        have q2 : r' = none := q2
        refine hres es' (by rw [eraseE_found ho]; exact g2) ?_
        unfold Builtin.delete_
        simp only [List.getElem?_toArray, List.getElem?_cons_zero, List.getElem?_cons_succ, Sem.run_bind, run_und hu, Result.andThen_ok, g3, checkKey_ok _ hko, q1, q2, run_setObj g1 trivial, Sem.run_pure]
      | some p =>
        obtain ⟨j, x⟩ := p
        obtain ⟨y, q2, q3⟩ := q2
        refine hres (es'.eraseIdxIfInBounds j) (by
          rw [eraseE_found ho]
          have hjl : j < es'.size := by have := get_lt q2; simpa using this
          simp only [Array.eraseIdxIfInBounds, hjl, dif_pos, Array.toList_eraseIdx]
          exact g2.eraseIdx j) ?_
        unfold Builtin.delete_
        simp only [List.getElem?_toArray, List.getElem?_cons_zero, List.getElem?_cons_succ, Sem.run_bind, run_und hu, Result.andThen_ok, g3, checkKey_ok _ hko, q1, q3, run_setObj g1 trivial, Sem.run_pure]
  · rename_i kt et hu
    obtain ⟨hko, h⟩ := h
    obtain rfl := hk.eq_of_ground (keyOk_ground hko)
    rcases hm.inv_map with ⟨_, rfl⟩ | ⟨id, l, h', hl, rfl⟩
    · refine ⟨w, H, ?_, Step.refl _ _, S, h⟩
      unfold Builtin.delete_
      simp only [List.getElem?_toArray, List.getElem?_cons_zero, List.getElem?_cons_succ, Sem.run_bind, run_und hu, Result.andThen_ok, checkKey_ok _ hko, Sem.run_pure]
    · cases h'
  · exact h.elim

theorem mapEntry_gives (S : Sim β H w) {t : TypeId} {m m' k k' : Value} {K : Value → IHeap → Prop} (hm : VRel β.loc m m') (hk : VRel β.loc k k') (h : mapEntry P t H m k K) : Gives β w K ((Instr.mapEntry t m' k').run P w) := by
  unfold mapEntry at h
  split at h
  · rename_i kt et r hu
    split at h
    · rename_i z hz
      obtain ⟨hko, es, clock, hr, h⟩ := h
      obtain ⟨i, hi, hzz, hg⟩ := zeroV_spec hz
      obtain rfl := hk.eq_of_ground (keyOk_ground hko)
      rcases hm.inv_map with ⟨h', _⟩ | ⟨id, l, h', hl, rfl⟩
      · cases h'
      · cases h'
        obtain ⟨es', g1, g2, g3⟩ := map_obj (P := P) S hl hr
        have hge := ((S.obj r l _ hl hr).block_lt rfl).2
        split at h
        · exact h.elim
        · rename_i e he
          obtain ⟨o, ho, hoe⟩ := findE_found he
          cases o with
          | none => cases hoe
          | some p =>
            obtain ⟨j, x⟩ := p
            simp only [Option.map_some, Option.some.injEq] at hoe
            subst hoe
            obtain ⟨r', q1, y, q2, q3⟩ := findKey_sound (w := w) hko g2 ho
            obtain ⟨y', p1, p2, p3, p4, p5⟩ := g2.get ho.get
            rw [q2] at p1
            cases p1
            have hkx : keq P kt k' x.key = some true := by
              have : ∀ {es : List MapEntry} {i : Nat} {x : MapEntry}, Found P kt k' es (some (i, x)) → keq P kt k' x.key = some true := by
                intro es
                induction es with
                | nil => intro i x h; cases h
                | cons e es ih => intro i x h; cases h with | here h => exact h | there _ r => exact ih r
              exact this ho
            rw [← p2] at hkx
            obtain ⟨kk, s1, hkk⟩ := run_keyThatStays (w := w) hkx
            rw [hkk] at s1
            have hn : es'.toList[j]? = some y := q2
            obtain ⟨St, Sm⟩ := S.setObj (x' := .map (es'.modify j fun e => { e with key := k' }) clock) hl hr rfl g1 (o' := .map (setVal P kt k' x.val es) clock) (fun W hW => ⟨hge, _, hW, by
              rw [setVal_found ho]
              have : (es'.modify j fun e => { e with key := k' }).toList = es'.toList.set j { y with key := k' } := by
                apply List.ext_getElem?
                intro a
                rw [List.getElem?_set]
                have hjl := get_lt hn
                by_cases e : j = a
                · subst e
                  rw [if_pos rfl, if_pos hjl]
                  simp only [Array.getElem?_toList, Array.getElem?_modify, if_pos]
                  rw [Array.getElem?_toList] at hn
                  rw [hn]
                  rfl
                · rw [if_neg e]
                  simp only [Array.getElem?_toList, Array.getElem?_modify, if_neg e]
              rw [this]
              exact g2.set j rfl (keyOk_ground hko) p4 p5⟩)
            refine ⟨.tuple #[y.val, goInt y.born], _, ?_, β, _, .tuple ⟨[x.val, .int .i64 x.born]⟩, St, Sm, ?_, shaped_sound (K := fun v => K (.tuple ⟨[v, .int .i64 x.born]⟩) _) h⟩
            · unfold Instr.mapEntry
              simp only [Sem.run_bind, run_und hu, Result.andThen_ok, g3, checkKey_ok _ hko, q1, q3]
              rw [Array.getElem?_toList] at hn
              simp only [hn, Option.map_some, Option.getD_some, s1, Result.andThen_ok, run_setObj g1 trivial, Sem.run_pure]
            · rw [p4]
              exact .tuple (.cons p5 (.cons (.int _ _) .nil))
        · rename_i he
          obtain ⟨o, ho, hoe⟩ := findE_found he
          cases o with
          | some p => cases hoe
          | none =>
            obtain ⟨r', q1, q2⟩ := findKey_sound (w := w) hko g2 ho
            obtain ⟨St, Sm⟩ := S.setObj (x' := .map (es'.push { key := k', val := z, born := clock }) (clock + 1)) hl hr rfl g1 (o' := .map (es ++ [{ key := k', val := z, born := clock }]) (clock + 1)) (fun W hW => ⟨hge, _, hW, by
              rw [Array.toList_push]
              exact g2.snoc rfl (keyOk_ground hko) rfl (VRel.of_ground _ _ hg)⟩)
            refine ⟨.tuple #[z, goInt clock], _, ?_, β, _, .tuple ⟨[z, .int .i64 clock]⟩, St, Sm, .tuple (.cons (VRel.of_ground _ _ hg) (.cons (.int _ _) .nil)), h⟩
            have q2 : r' = none := q2
            unfold Instr.mapEntry
            simp only [Sem.run_bind, run_und hu, Result.andThen_ok, g3, checkKey_ok _ hko, q1, q2, run_zero hi hzz, run_setObj g1 trivial, Sem.run_pure]
    · exact h.elim
  · exact h.elim

theorem entryStore_sound (S : Sim β H w) {t : TypeId} {m m' s s' v v' : Value} {K : IHeap → Prop} (hm : VRel β.loc m m') (hs : VRel β.loc s s') (hv : VRel β.loc v v') (h : entryStore H m s v K) :
    ∃ w' H', (Instr.entryStore t m' s' v').run P w = .ok () w' ∧ Step β w β w' ∧ Sim β H' w' ∧ K H' := by
  unfold entryStore at h
  split at h
  · rename_i r k b
    obtain rfl := hs.inv_int
    obtain ⟨es, clock, hr, es2, hes, h⟩ := h
    rcases hm.inv_map with ⟨h', _⟩ | ⟨id, l, h', hl, rfl⟩
    · cases h'
    · cases h'
      obtain ⟨es', g1, g2, g3⟩ := map_obj (P := P) S hl hr
      have hge := ((S.obj r l _ hl hr).block_lt rfl).2
      have key : ∀ {es es2 : List MapEntry} {xs : List MapEntry}, EsRel β.loc es xs → setBorn b v es = some es2 → ∃ j y, xs.findIdx? (fun e => (e.born : Int) == b) = some j ∧ xs[j]? = some y ∧ EsRel β.loc es2 (xs.set j { y with val := v' }) := by
        intro es
        induction es with
        | nil => intro es2 xs _ h; simp [setBorn] at h
        | cons e es ih =>
          intro es2 xs hx h
          cases xs with
          | nil => exact hx.elim
          | cons x xs =>
            obtain ⟨h1, h2, h3, h4, h5⟩ := hx
            simp only [setBorn] at h
            cases hb : ((e.born : Int) == b) with
            | true =>
              simp only [hb, cond_true, Option.some.injEq] at h
              subst h
              refine ⟨0, x, ?_, by simp, ?_⟩
              · simp [List.findIdx?_cons, h3, hb]
              · exact ⟨h1, h2, h3, hv, h5⟩
            | false =>
              simp only [hb, cond_false, Option.map_eq_some_iff] at h
              obtain ⟨es3, h6, rfl⟩ := h
              obtain ⟨j, y, q1, q2, q3⟩ := ih h5 h6
              refine ⟨j + 1, y, ?_, by simpa using q2, ?_⟩
              · simp [List.findIdx?_cons, h3, hb, q1]
              · exact ⟨h1, h2, h3, h4, q3⟩
      obtain ⟨j, y, q1, q2, q3⟩ := key g2 hes
      obtain ⟨St, Sm⟩ := S.setObj (x' := .map (es'.modify j fun e => { e with val := v' }) clock) hl hr rfl g1 (o' := .map es2 clock) (fun W hW => ⟨hge, _, hW, by
        have : (es'.modify j fun e => { e with val := v' }).toList = es'.toList.set j { y with val := v' } := by
          apply List.ext_getElem?
          intro a
          rw [List.getElem?_set]
          have hjl := get_lt q2
          by_cases e : j = a
          · subst e
            rw [if_pos rfl, if_pos hjl]
            simp only [Array.getElem?_toList, Array.getElem?_modify, if_pos]
            rw [Array.getElem?_toList] at q2
            rw [q2]
            rfl
          · rw [if_neg e]
            simp only [Array.getElem?_toList, Array.getElem?_modify, if_neg e]
        rw [this]
        exact q3⟩)
      refine ⟨_, _, ?_, St, Sm, h⟩
      unfold Instr.entryStore
      have q1' : es'.findIdx? (fun e => (e.born : Int) == b) = some j := by
        have e : es' = es'.toList.toArray := by simp
        rw [e, List.findIdx?_toArray]
        exact q1
      simp only [Sem.run_bind, Result.andThen_ok, g3, asInt, asIntOf, Sem.run_pure, q1']
      exact run_setObj g1 trivial
  · exact h.elim

theorem makeMap_makes {t : TypeId} {K : Value → IHeap → Prop} (h : K (.map (some (Pol.pos H))) (newO H (.map [] 0))) : MakesAt β w P H K (Instr.makeMap t none) :=
  ⟨_, _, .map (some w.heap.size), .map #[] 0, ⟨w.heap.size, 0, 0, true⟩, h, rfl, rfl, fun L hL _ => ⟨.map hL, fun hb => ⟨hb, #[], heap_push_self w _, trivial⟩⟩⟩

theorem makeMap_gives (S : Sim β H w) {t : TypeId} {K : Value → IHeap → Prop} (h : K (.map (some (Pol.pos H))) (newO H (.map [] 0))) : Gives β w K ((Instr.makeMap t none).run P w) := (makeMap_makes h).gives S

end
end Ide
