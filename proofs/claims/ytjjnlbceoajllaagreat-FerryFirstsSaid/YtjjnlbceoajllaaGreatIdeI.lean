/- append. -/
import Derived.Test.YtjjnlbceoajllaaGreatIdeH
set_option linter.unusedVariables false
set_option linter.unusedSimpArgs false
namespace Ide
open Go Go.RowKit

theorem beq_false {a b : Nat} (h : a ≠ b) : Nat.beq a b = false := by
  cases hb : Nat.beq a b with
  | false => rfl
  | true => exact absurd (Nat.eq_of_beq_eq_true hb) h

theorem growBy_le (need : Nat) : ∀ (r c : Nat), 256 ≤ c → c ≤ 2 * need → Builtin.growBy need r c ≤ 2 * need
  | 0, c, _, h => h
  | r + 1, c, h0, h => by
    unfold Builtin.growBy
    split
    · exact h
    · exact growBy_le need r _ (by omega) (by omega)

theorem nextslicecap_le {need c : Nat} (h : c < need) : Builtin.nextslicecap need c ≤ 2 * need := by
  unfold Builtin.nextslicecap
  split
  · omega
  · split
    · omega
    · exact growBy_le need 4 c (by omega) (by omega)

section
variable {P : Program} {β : Emb} {H : IHeap} {w : World}

theorem rowOk_spec {e : TypeId} (h : rowOk P e = true) : ∃ i z zs, P.info? e = some i ∧ i.size = ssz P e ∧ 1 ≤ i.size ∧ i.zero = some z ∧ z.cells = ⟨zs⟩ ∧ zs.length = i.size := by
  unfold rowOk at h
  simp only [Bool.and_eq_true] at h
  obtain ⟨h1, h2⟩ := h
  obtain ⟨i, hi, hs, h3⟩ := info_of_ble h1
  split at h2
  · rename_i zs hz
    obtain ⟨i', z, hi', hz1, _, _, hc, _⟩ := zeroOf_spec hz
    rw [hi] at hi'
    cases hi'
    exact ⟨i, z, zs, hi, hs, h3, hz1, hc, by rw [hs]; exact Nat.eq_of_beq_eq_true h2⟩
  · cases h2

theorem Sim.kill (S : Sim β H w) (i : Nat) : Sim β (H.set i .dead) w where
  below := S.below
  dom := fun j l h => by simpa using S.dom j l h
  held := fun j h => by simpa using S.held j h
  blk := S.blk
  obj := fun j l o h1 h2 => by
    by_cases e : i = j
    · subst e
      rw [List.getElem?_set] at h2
      simp at h2
      rw [← h2.2]
      trivial
    · rw [List.getElem?_set_ne e] at h2
      exact S.obj j l o h1 h2
  inj := fun a b l1 l2 o1 o2 h1 h2 h3 h4 h5 h6 he => by
    have key : ∀ (a : Nat) (x : IObj), (H.set i IObj.dead)[a]? = some x → x.own = true → H[a]? = some x := by
      intro a x hx hxo
      by_cases e : i = a
      · subst e
        rw [List.getElem?_set] at hx
        simp at hx
        rw [← hx.2] at hxo
        cases hxo
      · rwa [List.getElem?_set_ne e] at hx
    exact S.inj a b l1 l2 o1 o2 h1 h2 (key a o1 h3 h5) (key b o2 h4 h6) h5 h6 he

/-- The world behind a draw. -/
theorem Sim.drawn (S : Sim β H w) : Sim β H { w with drawn := w.drawn + 1 } := S.congr rfl (Below.drew (Below.refl _ _))

/-- append where the machine must make a new row. -/
theorem grow_gives (S : Sim β H w) {t u ty e : TypeId} {i : TypeInfo} {z : Value} {zs : List Value} (hu : P.underlying t = some (.slice e)) {e' : TypeId} (hu' : P.underlying u = some (.slice e')) (hi : P.info? e = some i) (h1 : 1 ≤ i.size) (hz : i.zero = some z) (hzc : z.cells = ⟨zs⟩) (hzl : zs.length = i.size)
    {A B : Option Addr} {n m C D : Nat} {H' : IHeap} (S' : Sim β H' w) (hC : C < n + m) (hby : (n + m) * i.bytes ≤ 70368744177664) (hmx : n + m ≤ 70368744177664)
    {old new old' new' : List Value} (ho : ∀ W : World, W.heap = w.heap → Below β.w0.heap.size w W → (Builtin.firstCells i.size n (.slice A n C)).run P W = .ok ⟨old'⟩ W) (hn : ∀ W : World, W.heap = w.heap → Below β.w0.heap.size w W → (Builtin.firstCells i.size m (.slice B m D)).run P W = .ok ⟨new'⟩ W)
    (hor : VsRel β.loc old old') (hnr : VsRel β.loc new new') (hol : old.length = n * i.size) (hnl : new.length = m * i.size) :
    ∃ (v' : Value) (w' : World) (β' : Emb), (Builtin.append_ #[t, u] ty #[.slice A n C, .slice B m D]).run P w = .ok v' w' ∧ Step β w β' w' ∧ Sim β' (H' ++ [.cells (old ++ new) true]) w' ∧ VRel β'.loc (.slice (some ⟨H'.length, 0, some (2 * i.size)⟩) (n + m) (n + m)) v' := by
  let w1 : World := { w with drawn := w.drawn + 1 }
  have S1 : Sim β H' w1 := S'.drawn
  let cap := Question.cut (.appendCap (n + m) C e) (w.tape w.drawn (.appendCap (n + m) C e))
  have hcap : n + m ≤ cap := by
    show n + m ≤ n + m + _ % _
    omega
  let arr : Array Value := ⟨old'⟩ ++ ⟨new'⟩ ++ Builtin.zeroCells z.cells (cap - (n + m))
  have hzsz : (Builtin.zeroCells z.cells (cap - (n + m))).size = (cap - (n + m)) * i.size := by
    simp [Builtin.zeroCells, hzc, hzl]
  have hol' := hor.length
  have hnl' := hnr.length
  have hsz : arr.size = cap * i.size := by
    show (_ ++ _ ++ _ : Array Value).size = _
    simp only [Array.size_append, hzsz]
    simp only [List.size_toArray]
    rw [hol', hol, hnl', hnl, ← Nat.add_mul, ← Nat.add_mul]
    congr 1
    omega
  have hle : (n + m) * i.size ≤ cap * i.size := Nat.mul_le_mul_right _ hcap
  have hnm : (n + m) * i.size = n * i.size + m * i.size := Nat.add_mul _ _ _
  obtain ⟨β', q1, q2, q3⟩ := (S1.ghost (.cells (old ++ new) true)).newCells (id := H'.length) (by simp) S1.unplaced arr e (old' ++ new') (hor.append hnr) (fun j v hj => by
      show (_ ++ _ ++ _ : Array Value)[j]? = some v
      have hjl := get_lt hj
      rw [Array.getElem?_append_left (by simpa using hjl)]
      simpa using hj) (by rw [hsz, List.length_append, hol, hnl]; omega)
  refine ⟨.slice (some ⟨w.heap.size, 0, none⟩) (n + m) cap, { w1 with heap := w1.heap.push (.cells arr e) }, β', ?_, (Step.of_heap (w := w) (w' := w1) rfl).trans q2, q3, ?_⟩
  · have hns : ¬ (Builtin.nextslicecap (n + m) C * i.bytes > 2 ^ 48) := by
      have := nextslicecap_le hC
      have := Nat.mul_le_mul_right i.bytes this
      rw [Nat.mul_assoc] at this
      omega
    have hb0 : ¬ (((n + m : Nat) : Int) > IntKind.i64.max ∧ ((false = true) ∨ i.bytes = 0)) := by
      have : (IntKind.i64.max : Int) = 9223372036854775807 := rfl
      omega
    unfold Builtin.append_
    simp only [List.getElem?_toArray, List.getElem?_cons_zero, List.getElem?_cons_succ, Sem.run_bind, run_und hu, run_und hu', Result.andThen_ok, run_sz hi, Sem.run_pure, Builtin.lenOf, Bool.false_eq_true, if_false, Sem.run_ite]
    rw [if_neg (by omega)]
    simp only [run_ti hi, Result.andThen_ok]
    rw [if_neg (by simp only [Bool.false_eq_true] at hb0; exact hb0), if_neg hns]
    have hch : (choose (Question.appendCap (n + m) C e)).run P w = .ok cap w1 := by
      simp only [run_choose, Question.forced, Bool.false_eq_true, if_false]
      rfl
    simp only [hch, Result.andThen_ok, run_ti hi, run_askRoom, Bool.not_false, if_true]
    have hw1 : Below β.w0.heap.size w w1 := Below.drew (Below.refl _ _)
    simp only [ho w1 rfl hw1, hn w1 rfl hw1, Result.andThen_ok, run_zero hi hz]
    rfl
  · exact .slice q1 (Nat.le_refl _) hcap (fun h => by omega) (.inl rfl) (fun _ => by
      have e : 2 * i.size / 2 = i.size := by omega
      simp only
      rw [hsz, e]; omega)

/-- Reading a slice's cells, in whatever world of the same memory. -/
theorem firstCells_any (S : Sim β H w) {a : Option Addr} {n m k sz : Nat} {v' : Value} {K : List Value → Prop} (hk : k ≤ n) (hv : VRel β.loc (.slice a n m) v') (h : sliceCells H a k sz K) :
    ∃ cs cs' : List Value, (∀ W : World, W.heap = w.heap → Below β.w0.heap.size w W → (Builtin.firstCells sz k v').run P W = .ok ⟨cs'⟩ W) ∧ VsRel β.loc cs cs' ∧ K cs ∧ cs.length = k * sz ∧ sliceCells H a k sz (· = cs) := by
  obtain ⟨cs, cs', g1, g2, g3, g4⟩ := sliceCells_sound (P := P) (K := fun x => K x ∧ sliceCells H a k sz (· = x)) S hk hv (by
    unfold sliceCells at h ⊢
    split at h
    · exact ⟨h.1, h.2, h.1, rfl⟩
    · obtain ⟨cs, h1, h2⟩ := h
      exact ⟨cs, h1, h2, cs, h1, rfl⟩
    · exact h.elim)
  refine ⟨cs, cs', fun W hW hB => ?_, g2, g3.1, g4, g3.2⟩
  have S' := S.congr hW hB
  obtain ⟨ds, ds', q1, q2, q3, q4⟩ := sliceCells_sound (P := P) (w := W) S' hk hv h
  rcases hv.inv_slice with ⟨rfl, rfl, rfl, rfl⟩ | ⟨id, off, q, L, o', C, rfl, hl, rfl, h1, h2, h3, h4, h5⟩
  · simp [Builtin.firstCells] at g1 q1 ⊢
    exact g1
  · simp only [Builtin.firstCells] at g1 ⊢
    have hcell : ∀ a : Addr, W.cell? a = w.cell? a := fun a => by simp only [World.cell?, hW]
    -- the same cells are loaded
    have key : ∀ (k i : Nat) (acc r : Array Value), (loadCellsFrom ⟨L.block, o', none⟩ i k acc).run P w = .ok r w → (∀ j, j < k → (w.cell? ((⟨L.block, o', none⟩ : Addr).add (i + j))).isSome = true) → (loadCellsFrom ⟨L.block, o', none⟩ i k acc).run P W = .ok r W := by
      intro k
      induction k with
      | zero => intro i acc r h _; simp [loadCellsFrom] at h ⊢; exact h
      | succ k ih =>
        intro i acc r h hs
        have h0 := hs 0 (by omega)
        simp only [Nat.add_zero] at h0
        obtain ⟨x, hx⟩ := Option.isSome_iff_exists.1 h0
        simp only [loadCellsFrom, Sem.run_bind, run_load, hx, Result.andThen_ok] at h
        simp only [loadCellsFrom, Sem.run_bind, run_load, hcell, hx, Result.andThen_ok]
        exact ih (i + 1) _ r h (fun j hj => by have := hs (j + 1) (by omega); rwa [show i + (j + 1) = i + 1 + j by omega] at this)
    refine key _ 0 _ _ g1 (fun j hj => ?_)
    unfold sliceCells at h
    simp only at h
    obtain ⟨es, he, _⟩ := h
    have hel := cellsAt_length he
    by_cases hz : C = 0
    · have : k = 0 := by omega
      subst this
      simp at hj
    · obtain rfl := h4.resolve_right hz
      obtain ⟨v, hv1, _⟩ := S.cell hl (cellsAt_get he (List.getElem?_eq_getElem (show j < es.length by omega)))
      rw [addr_add, Nat.zero_add, Nat.add_assoc, hv1]
      rfl

theorem append_gives (S : Sim β H w) {t u ty : TypeId} {x y x' y' : Value} {K : Value → IHeap → Prop} {e' : TypeId} (hu' : P.underlying u = some (.slice e')) (hx : VRel β.loc x x') (hy : VRel β.loc y y') (h : append P t x y H K) :
    Gives β w K ((Builtin.append_ #[t, u] ty #[x', y']).run P w) := by
  unfold append at h
  split at h
  · rename_i e a n c b m d hu
    obtain ⟨hro, ⟨hby, hmx⟩, h⟩ := bif_sound h
    obtain ⟨i, z, zs, hi, hsz, h1, hz, hzc, hzl⟩ := rowOk_spec hro
    rw [← hsz] at h
    rw [sby_of hi] at hby
    obtain ⟨old, old', ho, hor, h, hol, hoS⟩ := firstCells_any (P := P) S (Nat.le_refl _) hx h
    obtain ⟨new, new', hn, hnr, h, hnl, hnS⟩ := firstCells_any (P := P) S (Nat.le_refl _) hy h
    have w_self : (Builtin.firstCells i.size m y').run P w = .ok ⟨new'⟩ w := hn w rfl (Below.refl _ _)
    obtain ⟨B, D, rfl⟩ : ∃ B D, y' = .slice B m D := by
      rcases hy.inv_slice with ⟨_, rfl, _, rfl⟩ | ⟨_, _, _, _, _, _, _, _, rfl, _⟩ <;> exact ⟨_, _, rfl⟩
    obtain ⟨A, C, rfl, hcC, hnC⟩ : ∃ A C, x' = .slice A n C ∧ c ≤ C ∧ n ≤ c := by
      rcases hx.inv_slice with ⟨_, rfl, rfl, rfl⟩ | ⟨_, _, _, _, _, _, _, _, rfl, g1, g2, _⟩
      · exact ⟨_, _, rfl, Nat.le_refl _, Nat.le_refl _⟩
      · exact ⟨_, _, rfl, g2, g1⟩
    have stay : n + m ≤ C → ∀ (r : Result Value), (∀ a0, A = some a0 → ((Go.storeCells (a0.add (n * i.size)) new').run P w).andThen (fun _ w' => Result.ok (Value.slice A (n + m) C) w') = r) → (A = none → Result.ok (Value.slice A (n + m) C) w = r) → (Builtin.append_ #[t, u] ty #[.slice A n C, .slice B m D]).run P w = r := by
      intro hle r hs hnone
      unfold Builtin.append_
      simp only [List.getElem?_toArray, List.getElem?_cons_zero, List.getElem?_cons_succ, Sem.run_bind, run_und hu, run_und hu', Result.andThen_ok, run_sz hi, Sem.run_pure, Builtin.lenOf, Bool.false_eq_true, if_false, Sem.run_ite]
      rw [if_pos hle]
      simp only [Bool.not_false, if_true, w_self, Result.andThen_ok]
      cases A with
      | none => simpa using hnone rfl
      | some a0 => simpa [Sem.run_bind] using hs a0 rfl
    unfold appended at h
    obtain ⟨hm0, hm1⟩ := bcase_sound h
    by_cases hmz : m = 0
    · subst hmz
      have hk := hm0 rfl
      have hnew : new' = [] := List.eq_nil_of_length_eq_zero (by rw [hnr.length, hnl]; simp)
      subst hnew
      refine .same S (v' := .slice A n C) (stay (by omega) _ (fun a0 _ => ?_) (fun hA => ?_)) hx hk
      · simp [Go.storeCells]
      · simp
    · have hk := hm1 (beq_false hmz)
      clear hm0 hm1 h
      split at hk
      · rcases hx.inv_slice with ⟨_, rfl, rfl, hxe⟩ | ⟨_, _, _, _, _, _, h', _⟩
        · cases hxe
          obtain ⟨v', w', β', q1, q2, q3, q4⟩ := grow_gives S (ty := ty) hu hu' hi h1 hz hzc hzl S (by omega) hby hmx ho hn hor hnr hol hnl
          exact ⟨v', w', q1, β', _, _, q2, q3, q4, hk⟩
        · cases h'
      · rename_i id off q _ _
        obtain ⟨⟨hq, hone⟩, hin, hgr⟩ := hk
        rcases hx.inv_slice with ⟨h', _⟩ | ⟨id', off', q', L, o', C', h', hl, hxe, g1, g2, g3, g4, g5⟩
        · cases h'
        · cases h'
          cases hxe
          by_cases hfit : n + m ≤ c
          · -- there is room for certain
            have hC0 : C ≠ 0 := by omega
            obtain rfl := g4.resolve_right hC0
            obtain ⟨cs, p1, p2, p3⟩ := hin hfit
            obtain ⟨w', s1, s2, s3⟩ := S.storeCells P hl p1 p2 hnr hone
            refine ⟨.slice (some ⟨L.block, L.base + off, none⟩) (n + m) C, w', stay (by omega) _ (fun a0 ha0 => ?_) (fun hA => by cases hA), β, _, .slice (some ⟨id, off, some q⟩) (n + m) c, s2, s3, .slice hl hfit g2 g3 (.inl rfl) g5, p3⟩
            cases ha0
            rw [addr_add, Nat.add_assoc, s1]
            rfl
          · have hk := hgr (by omega)
            obtain ⟨hodd, heven⟩ := bcase_sound hk
            by_cases hpar : q % 2 = 1
            · have hCc := g3 hpar
              obtain ⟨v', w', β', q1, q2, q3, q4⟩ := grow_gives S (ty := ty) hu hu' hi h1 hz hzc hzl S (by omega) hby hmx ho hn hor hnr hol hnl
              exact ⟨v', w', q1, β', _, _, q2, q3, q4, hodd (by simp [hpar])⟩
            · obtain ⟨⟨cs, hcs⟩, hk⟩ := heven (beq_false hpar)
              by_cases hroom : n + m ≤ C
              · -- in place, the old row being dead
                have hC0 : C ≠ 0 := by omega
                obtain rfl := g4.resolve_right hC0
                obtain ⟨hrw, hb, arr, T, vs, o2, o3, o3', o4, o5⟩ := S.obj id L _ hl hcs
                have g5' := g5 hrw
                rw [hq] at g5'
                have e1 : n * i.size + m * i.size = (n + m) * i.size := (Nat.add_mul _ _ _).symm
                have e2 : (n + m) * i.size ≤ C * i.size := Nat.mul_le_mul_right _ hroom
                have hnl' := hnr.length
                have hol' := hor.length
                have hst := run_storeCells_at P L.block (L.base + off + n * i.size) T new' 0 arr w o2 (by omega) (hnr.oneCell hone)
                have hstc : cellsAt H id off (n * i.size) = some old := by
                  have := hoS
                  unfold sliceCells at this
                  simp only at this
                  obtain ⟨x, hx1, hx2⟩ := this
                  rw [hx1, hx2]
                let w' := w.setRow L.block (arr.toList.take (L.base + off + n * i.size + 0) ++ new' ++ arr.toList.drop (L.base + off + n * i.size + 0 + new'.length)).toArray
                let L' : Loc := ⟨L.block, L.base + off, L.size, true⟩
                have Sk : Sim β (H.set id .dead ++ [.cells (old ++ new) true]) w := (S.kill id).ghost _
                have hid : (H.set id IObj.dead ++ [IObj.cells (old ++ new) true])[H.length]? = some (.cells (old ++ new) true) := by simp
                have hun := S.unplaced
                have hother : ∀ k, k ≠ L.block → w'.heap[k]? = w.heap[k]? := fun k hk => setRow_other w _ k _ hk
                have hbel : Below β.w0.heap.size w w' := below_setRow (Below.refl _ _) hb _
                -- the cells as they lie now
                have hwithin : cs.length ≥ off + n * i.size := by
                  unfold cellsAt at hstc
                  rw [hcs] at hstc
                  simp only at hstc
                  split at hstc
                  · omega
                  · cases hstc
                have hold : old = (cs.drop off).take (n * i.size) := by
                  unfold cellsAt at hstc
                  rw [hcs] at hstc
                  simp only at hstc
                  split at hstc
                  all_goals first
                    | exact (Option.some.inj hstc).symm
                    | cases hstc
                have hfit2 : L.base + off + n * i.size + new'.length ≤ arr.size := by omega
                have hO : ORel (β.with H.length L').loc β.w0 w' L' (.cells (old ++ new) true) := by
                  have hvold : VsRel β.loc old ((vs.drop off).take (n * i.size)) := by rw [hold]; exact (o4.drop off).take _
                  refine ⟨rfl, hb, _, T, (vs.drop off).take (n * i.size) ++ new', setRow_heap w _ arr _ T _ o2, ?_, ?_, (hvold.append hnr).mono (Emb.with_le _ hun.1).2, fun j v hj => ?_⟩
                  · show (arr.toList.take (L.base + off + n * i.size + 0) ++ new' ++ arr.toList.drop (L.base + off + n * i.size + 0 + new'.length)).toArray.size = L.size
                    simp only [List.size_toArray, List.length_append, List.length_take, List.length_drop, Array.length_toList]
                    omega
                  · show L.base + off + (old ++ new).length ≤ L.size
                    rw [List.length_append, hol, hnl]
                    omega
                  · have hj' := get_lt hj
                    have hvl : vs.length = cs.length := o4.length
                    have htk : ((vs.drop off).take (n * i.size)).length = n * i.size := by simp; omega
                    show ((arr.toList.take (L.base + off + n * i.size + 0) ++ new' ++ arr.toList.drop (L.base + off + n * i.size + 0 + new'.length)).toArray)[L.base + off + j]? = some v
                    have e : ((arr.toList.take (L.base + off + n * i.size + 0) ++ new' ++ arr.toList.drop (L.base + off + n * i.size + 0 + new'.length)).toArray)[L.base + off + j]? = (splice arr.toList (L.base + off + n * i.size) new')[L.base + off + j]? := by
                      simp [splice]
                    rw [e, splice_get (by simp; omega)]
                    rw [List.length_append, htk] at hj'
                    by_cases c1 : j < n * i.size
                    · rw [if_pos (by omega)]
                      rw [List.getElem?_append_left (by omega), List.getElem?_take, if_pos c1, List.getElem?_drop] at hj
                      have := o5 (off + j) v hj
                      rw [← Nat.add_assoc] at this
                      simpa using this
                    · rw [if_neg (by omega), if_pos (by omega)]
                      rw [List.getElem?_append_right (by omega), htk] at hj
                      rwa [show L.base + off + j - (L.base + off + n * i.size) = j - n * i.size by omega]
                have Sp : Sim (β.with H.length L') (H.set id .dead ++ [.cells (old ++ new) true]) w' := Sk.place hid hun L' hbel (fun k hk _ => hother k hk) (fun j lj oj a1 a2 a3 => by
                  intro he
                  have hne : j ≠ H.length := by
                    intro e
                    rw [e, hun.1] at a1
                    cases a1
                  have hjl := S.dom j lj a1
                  rw [List.getElem?_append_left (by simpa using hjl)] at a2
                  by_cases e : id = j
                  · subst e
                    rw [List.getElem?_set] at a2
                    simp at a2
                    rw [← a2.2] at a3
                    cases a3
                  · rw [List.getElem?_set_ne e] at a2
                    exact e (S.inj id j L lj _ oj hl a1 hcs a2 rfl a3 he.symm)) hO (Nat.lt_of_lt_of_le (S.blk id L hl) hbel.size) hbel.size
                refine ⟨.slice (some ⟨L.block, L.base + off, none⟩) (n + m) C, w', stay hroom _ (fun a0 ha0 => ?_) (fun hA => by cases hA), β.with H.length L', _, newSlice H (n + m) i.size, ⟨Emb.with_le _ hun.1, by simp [w'], fun j l' hj => ?_, fun k _ hk2 => hother k fun e => hk2 id L hl e.symm⟩, Sp, ?_, hk⟩
                · cases ha0
                  rw [addr_add, hst]
                  rfl
                · by_cases e : j = H.length
                  · subst e
                    rw [Emb.with_self] at hj
                    cases hj
                    exact .inl ⟨id, L, hl, rfl⟩
                  · exact .inl ⟨j, l', by simpa [Emb.with, e] using hj, rfl⟩
                · have hq2 : 2 * i.size / 2 = i.size := by omega
                  exact .slice (l := L') (Emb.with_self _ _ _) (Nat.le_refl _) hroom (fun h => by omega) (.inl rfl) (fun _ => by
                    show L.base + off + C * (2 * i.size / 2) ≤ L.size
                    rw [hq2]
                    exact g5')
              · obtain ⟨v', w', β', q1, q2, q3, q4⟩ := grow_gives S (ty := ty) hu hu' hi h1 hz hzc hzl (S.kill id) (by omega) hby hmx ho hn hor hnr hol hnl
                have hlen : (H.set id IObj.dead).length = H.length := by simp
                rw [hlen] at q4
                exact ⟨v', w', q1, β', _, _, q2, q3, q4, hk⟩
      · exact hk.elim
  · exact h.elim

end
end Ide
