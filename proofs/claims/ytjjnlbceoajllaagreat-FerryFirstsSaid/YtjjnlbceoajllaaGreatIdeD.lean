/- Worlds and ideal heaps move together: reading, writing, making. -/
import Derived.Test.YtjjnlbceoajllaaGreatIdeC
import Derived.Laws.Cells
import Derived.Laws.CopyRow
import Derived.Laws.CopyOwn
set_option linter.unusedVariables false
set_option linter.unusedSimpArgs false
namespace Ide
open Go Go.RowKit

theorem get_lt {α : Type} {l : List α} {i : Nat} {x : α} (h : l[i]? = some x) : i < l.length := (List.getElem?_eq_some_iff.1 h).1

theorem addr_add (b o n : Nat) : (⟨b, o, none⟩ : Addr).add n = ⟨b, o + n, none⟩ := by unfold Addr.add; split <;> simp_all

/-! ### a world that keeps its memory -/
theorem Sim.congr {β : Emb} {H : IHeap} {w w' : World} (S : Sim β H w) (hh : w'.heap = w.heap) (hb : Below β.w0.heap.size w w') : Sim β H w' where
  below := S.below.trans hb
  dom := S.dom
  held := S.held
  blk := fun id l h => by rw [hh]; exact S.blk id l h
  obj := fun id l o h1 h2 => (S.obj id l o h1 h2).keep fun _ => by rw [hh]
  inj := S.inj

theorem Step.of_heap {β : Emb} {w w' : World} (hh : w'.heap = w.heap) : Step β w β w' where
  le := Emb.le.refl _
  size := by rw [hh]; exact Nat.le_refl _
  newb := fun id l h => .inl ⟨id, l, h, rfl⟩
  frame := fun k _ _ => by rw [hh]

/-! ### an object is given a place in the machine -/
def Emb.with (β : Emb) (id : Nat) (l : Loc) : Emb := { w0 := β.w0, held := β.held, loc := fun i => if i = id then some l else β.loc i }

theorem Emb.with_le {β : Emb} {id : Nat} (l : Loc) (hn : β.loc id = none) : β.le (β.with id l) := ⟨⟨rfl, rfl⟩, fun i l' h => by
  show (if i = id then some l else β.loc i) = some l'
  by_cases e : i = id
  · subst e; rw [hn] at h; cases h
  · rw [if_neg e]; exact h⟩

theorem Emb.with_self (β : Emb) (id : Nat) (l : Loc) : (β.with id l).loc id = some l := by simp [Emb.with]

theorem Sim.ghost {β : Emb} {H : IHeap} {w : World} (S : Sim β H w) (o : IObj) : Sim β (H ++ [o]) w where
  below := S.below
  dom := fun id l h => by have := S.dom id l h; simp; omega
  held := fun id h => ⟨by have := (S.held id h).1; simp; omega, (S.held id h).2⟩
  blk := S.blk
  obj := fun id l o' h1 h2 => S.obj id l o' h1 (by have := S.dom id l h1; rwa [List.getElem?_append_left this] at h2)
  inj := fun i j l l' o1 o2 h1 h2 h3 h4 => S.inj i j l l' o1 o2 h1 h2 (by have := S.dom i l h1; rwa [List.getElem?_append_left this] at h3) (by have := S.dom j l' h2; rwa [List.getElem?_append_left this] at h4)

theorem Sim.place {β : Emb} {H : IHeap} {w w' : World} (S : Sim β H w) {id : Nat} {o : IObj} (ho : H[id]? = some o) (hn : β.loc id = none ∧ ¬ β.held id) (l : Loc)
    (hb : Below β.w0.heap.size w w') (hk : ∀ k, k ≠ l.block → k < w.heap.size → w'.heap[k]? = w.heap[k]?)
    (hfree : ∀ j lj oj, β.loc j = some lj → H[j]? = some oj → oj.own = true → lj.block ≠ l.block)
    (hO : ORel (β.with id l).loc β.w0 w' l o) (hlt : l.block < w'.heap.size) (hsz : w.heap.size ≤ w'.heap.size) : Sim (β.with id l) H w' where
  below := S.below.trans hb
  dom := fun i l' h => by
    by_cases e : i = id
    · subst e; exact get_lt ho
    · have : β.loc i = some l' := by simpa [Emb.with, e] using h
      exact S.dom i l' this
  held := fun i h => ⟨(S.held i h).1, by
    have e : i ≠ id := fun e => hn.2 (e ▸ h)
    show (if i = id then some l else β.loc i) = none
    rw [if_neg e]; exact (S.held i h).2⟩
  blk := fun i l' h => by
    by_cases e : i = id
    · subst e; rw [Emb.with_self] at h; cases h; exact hlt
    · exact Nat.lt_of_lt_of_le (S.blk i l' (by simpa [Emb.with, e] using h)) hsz
  obj := fun i l' o' h1 h2 => by
    by_cases e : i = id
    · subst e
      rw [Emb.with_self] at h1; cases h1
      rw [ho] at h2; cases h2
      exact hO
    · have h1' : β.loc i = some l' := by simpa [Emb.with, e] using h1
      refine ((S.obj i l' o' h1' h2).keep fun hown => ?_).mono (Emb.with_le l hn.1).2
      exact hk _ (hfree i l' o' h1' h2 hown) ((S.obj i l' o' h1' h2).block_lt hown).1
  inj := fun i j l1 l2 o1 o2 h1 h2 h3 h4 h5 h6 he => by
    by_cases e : i = id
    · by_cases e' : j = id
      · rw [e, e']
      · subst e
        rw [Emb.with_self] at h1; cases h1
        have h2' : β.loc j = some l2 := by simpa [Emb.with, e'] using h2
        exact absurd he.symm (hfree j l2 o2 h2' h4 h6)
    · have h1' : β.loc i = some l1 := by simpa [Emb.with, e] using h1
      by_cases e' : j = id
      · subst e'
        rw [Emb.with_self] at h2; cases h2
        exact absurd he (hfree i l1 o1 h1' h3 h5)
      · have h2' : β.loc j = some l2 := by simpa [Emb.with, e'] using h2
        exact S.inj i j l1 l2 o1 o2 h1' h2' h3 h4 h5 h6 he

/-- Blocks of live own objects lie below the world's end. -/
theorem Sim.fresh {β : Emb} {H : IHeap} {w : World} (S : Sim β H w) (j : Nat) (lj : Loc) (oj : IObj) (h1 : β.loc j = some lj) (h2 : H[j]? = some oj) (h3 : oj.own = true) : lj.block ≠ w.heap.size := by
  have := (S.obj j lj oj h1 h2).block_lt h3
  omega

theorem Sim.base_le {β : Emb} {H : IHeap} {w : World} (S : Sim β H w) : β.w0.heap.size ≤ w.heap.size := S.below.size

theorem heap_push_lt (w : World) (o : Obj) (k : Nat) (h : k < w.heap.size) : ({ w with heap := w.heap.push o } : World).heap[k]? = w.heap[k]? := by
  show (w.heap.push o)[k]? = _
  rw [Array.getElem?_push, if_neg (by omega)]
theorem heap_push_self (w : World) (o : Obj) : ({ w with heap := w.heap.push o } : World).heap[w.heap.size]? = some o := by
  show (w.heap.push o)[w.heap.size]? = _
  simp

theorem below_push (w : World) (o : Obj) (B : Nat) (hB : B ≤ w.heap.size) : Below B w { w with heap := w.heap.push o } :=
  ⟨rfl, rfl, rfl, by simp, fun k hk => heap_push_lt w o k (by omega)⟩

/-- An object of the heap that has no place yet gets a new block. -/
theorem Sim.make {β : Emb} {H : IHeap} {w : World} (S : Sim β H w) {id : Nat} {o : IObj} (ho : H[id]? = some o) (hn : β.loc id = none ∧ ¬ β.held id) (x : Obj) (l : Loc) (hl : l.block = w.heap.size)
    (hO : ORel (β.with id l).loc β.w0 { w with heap := w.heap.push x } l o) :
    Step β w (β.with id l) { w with heap := w.heap.push x } ∧ Sim (β.with id l) H { w with heap := w.heap.push x } := by
  refine ⟨⟨Emb.with_le l hn.1, by simp, fun i l' h => ?_, fun k hk _ => heap_push_lt w x k hk⟩, S.place ho hn l (below_push w x _ S.base_le) (fun k _ hk => heap_push_lt w x k hk) (fun j lj oj h1 h2 h3 => by rw [hl]; exact S.fresh j lj oj h1 h2 h3) hO (by simp; omega) (by simp)⟩
  by_cases e : i = id
  · subst e; rw [Emb.with_self] at h; cases h; exact .inr (by omega)
  · exact .inl ⟨i, l', by simpa [Emb.with, e] using h, rfl⟩

/-- New cells. -/
theorem Sim.newCells {β : Emb} {H : IHeap} {w : World} (S : Sim β H w) {id : Nat} {cs : List Value} (ho : H[id]? = some (.cells cs true)) (hn : β.loc id = none ∧ ¬ β.held id) (arr : Array Value) (T : TypeId)
    (vs : List Value) (hv : VsRel β.loc cs vs) (hp : ∀ (i : Nat) (v : Value), vs[i]? = some v → arr[i]? = some v) (hs : cs.length ≤ arr.size) :
    ∃ β', β'.loc id = some ⟨w.heap.size, 0, arr.size, true⟩ ∧ Step β w β' { w with heap := w.heap.push (.cells arr T) } ∧ Sim β' H { w with heap := w.heap.push (.cells arr T) } := by
  refine ⟨β.with id ⟨w.heap.size, 0, arr.size, true⟩, Emb.with_self _ _ _, S.make ho hn _ _ rfl ⟨rfl, S.base_le, arr, T, vs, heap_push_self w _, rfl, by simpa using hs, hv.mono (Emb.with_le _ hn.1).2, fun i v h => by simpa using hp i v h⟩⟩

/-! ### an own object is written -/
theorem Sim.write {β : Emb} {H : IHeap} {w w' : World} (S : Sim β H w) {id : Nat} {l : Loc} {o o' : IObj} (hid : β.loc id = some l) (ho : H[id]? = some o) (hown : o.own = true)
    (hb : Below β.w0.heap.size w w') (hk : ∀ k, k ≠ l.block → w'.heap[k]? = w.heap[k]?) (hO : ORel β.loc β.w0 w' l o') (hsz : w.heap.size ≤ w'.heap.size := by first | (simp; done) | omega) : Sim β (H.set id o') w' where
  below := S.below.trans hb
  dom := fun i l' h => by simpa using S.dom i l' h
  held := fun i h => by simpa using S.held i h
  blk := fun i l' h => Nat.lt_of_lt_of_le (S.blk i l' h) hsz
  obj := fun i l' x h1 h2 => by
    by_cases e : id = i
    · subst e
      rw [List.getElem?_set, if_pos rfl, if_pos (get_lt ho)] at h2
      rw [hid] at h1
      cases h1; cases h2; exact hO
    · rw [List.getElem?_set_ne e] at h2
      refine (S.obj i l' x h1 h2).keep fun hx => hk _ fun he => e ?_
      exact S.inj id i l l' o x hid h1 ho h2 hown hx he.symm
  inj := fun i j l1 l2 o1 o2 h1 h2 h3 h4 h5 h6 he => by
    have key : ∀ (a : Nat) (x : IObj), (H.set id o')[a]? = some x → x.own = true → ∃ y, H[a]? = some y ∧ y.own = true := by
      intro a x hx hxo
      by_cases e : id = a
      · exact ⟨o, e ▸ ho, hown⟩
      · rw [List.getElem?_set_ne e] at hx; exact ⟨x, hx, hxo⟩
    obtain ⟨y1, g1, q1⟩ := key i o1 h3 h5
    obtain ⟨y2, g2, q2⟩ := key j o2 h4 h6
    exact S.inj i j l1 l2 y1 y2 h1 h2 g1 g2 q1 q2 he

theorem Step.write {β : Emb} {w w' : World} {id : Nat} {l : Loc} (hid : β.loc id = some l) (hs : w.heap.size ≤ w'.heap.size) (hk : ∀ k, k ≠ l.block → w'.heap[k]? = w.heap[k]?) : Step β w β w' where
  le := Emb.le.refl _
  size := hs
  newb := fun id l h => .inl ⟨id, l, h, rfl⟩
  frame := fun k _ hn => hk k fun e => hn id l hid e.symm

/-! ### cells are read -/
theorem Sim.cell {β : Emb} {H : IHeap} {w : World} (S : Sim β H w) {id off : Nat} {l : Loc} {v : Value} (hid : β.loc id = some l) (h : cellAt H id off = some v) :
    ∃ v', w.cell? ⟨l.block, l.base + off, none⟩ = some v' ∧ VRel β.loc v v' := by
  unfold cellAt at h
  split at h
  · rename_i cs rw hH
    have hO := S.obj id l _ hid hH
    cases rw with
    | true =>
      obtain ⟨_, _, arr, T, vs, h2, _, _, h4, h5⟩ := hO
      obtain ⟨v', g1, g2⟩ := h4.get h
      exact ⟨v', by simp [World.cell?, h2, h5 off v' g1], g2⟩
    | false =>
      obtain ⟨_, hlt, vs, h4, h5⟩ := hO
      obtain ⟨v', g1, g2⟩ := h4.get h
      exact ⟨v', (S.below.cell (p := ⟨l.block, l.base + off, none⟩) hlt).trans (h5 off v' g1), g2⟩
  · cases h

theorem cellsAt_length {H : IHeap} {i o n : Nat} {cs : List Value} (h : cellsAt H i o n = some cs) : cs.length = n := by
  unfold cellsAt at h
  split at h
  · split at h
    · cases h; simp; omega
    · cases h
  · cases h

theorem cellsAt_get {H : IHeap} {i o n : Nat} {cs : List Value} (h : cellsAt H i o n = some cs) {j : Nat} {v : Value} (hj : cs[j]? = some v) : cellAt H i (o + j) = some v := by
  unfold cellsAt at h
  unfold cellAt
  split at h
  · rename_i cs0 rw hH
    split at h
    · cases h
      have hjn : j < n := by have := get_lt hj; simp at this; omega
      rw [List.getElem?_take, if_pos hjn, List.getElem?_drop] at hj
      simpa using hj
    · cases h
  · cases h

/-- A row of cells is read. -/
theorem Sim.loadCells {β : Emb} {H : IHeap} {w : World} (S : Sim β H w) (P : Program) {id off n : Nat} {l : Loc} {cs : List Value} (hid : β.loc id = some l) (h : cellsAt H id off n = some cs) :
    ∃ cs' : List Value, VsRel β.loc cs cs' ∧ (Go.loadCells ⟨l.block, l.base + off, none⟩ n).run P w = .ok cs'.toArray w := by
  have key : ∀ (cs : List Value) (o : Nat), (∀ (j : Nat) (v : Value), cs[j]? = some v → cellAt H id (o + j) = some v) → ∃ cs' : List Value, VsRel β.loc cs cs' ∧ ∀ (j : Nat) (v : Value), cs'[j]? = some v → w.cell? ⟨l.block, l.base + (o + j), none⟩ = some v := by
    intro cs
    induction cs with
    | nil => exact fun o _ => ⟨[], .nil, fun j v h => by simp at h⟩
    | cons c cs ih =>
      intro o hc
      obtain ⟨c', h1, h2⟩ := S.cell hid (hc 0 c rfl)
      obtain ⟨cs', h3, h4⟩ := ih (o + 1) (fun j v hj => by have := hc (j + 1) v (by simpa using hj); rwa [show o + 1 + j = o + (j + 1) by omega])
      refine ⟨c' :: cs', .cons h2 h3, fun j v hj => ?_⟩
      cases j with
      | zero => simp at hj; subst hj; exact h1
      | succ j => have := h4 j v (by simpa using hj); rwa [show o + 1 + j = o + (j + 1) by omega] at this
  obtain ⟨cs', h1, h2⟩ := key cs off (fun j v hj => cellsAt_get h hj)
  refine ⟨cs', h1, ?_⟩
  have hl : cs'.length = n := h1.length.trans (cellsAt_length h)
  rw [← hl]
  exact run_loadCells_list w _ cs' fun j v hj => by rw [addr_add, Nat.add_assoc]; exact h2 j v hj

/-! ### cells are written -/
theorem splice_length {cs vs : List Value} {o : Nat} (h : o + vs.length ≤ cs.length) : (splice cs o vs).length = cs.length := by
  unfold splice; simp; omega

theorem splice_get {cs vs : List Value} {o : Nat} (h : o + vs.length ≤ cs.length) (i : Nat) : (splice cs o vs)[i]? = if i < o then cs[i]? else if i < o + vs.length then vs[i - o]? else cs[i]? := by
  unfold splice
  by_cases h1 : i < o
  · rw [if_pos h1, List.append_assoc, List.getElem?_append_left (by simp; omega), List.getElem?_take, if_pos h1]
  · rw [if_neg h1]
    by_cases h2 : i < o + vs.length
    · rw [if_pos h2, List.append_assoc, List.getElem?_append_right (by simp; omega), List.getElem?_append_left (by simp; omega)]
      congr 1; simp; omega
    · rw [if_neg h2, List.getElem?_append_right (by simp; omega), List.getElem?_drop]
      congr 1; simp; omega

theorem VsRel.splice {L : LMap} {cs cs' vs vs' : List Value} (h : VsRel L cs cs') (hv : VsRel L vs vs') (o : Nat) : VsRel L (splice cs o vs) (splice cs' o vs') := by
  unfold Ide.splice
  rw [hv.length]
  exact ((h.take o).append hv).append (h.drop _)

theorem VRel.oneCell {L : LMap} {v v' : Value} (h : VRel L v v') (h1 : okCell v = true) : v'.oneCell' = true := by
  cases h <;> simp_all [Value.oneCell', anyV, okCell]

theorem VsRel.oneCell {L : LMap} : ∀ {a b : List Value}, VsRel L a b → a.all okCell = true → ∀ v ∈ b, v.oneCell' = true
  | _, _, .nil, _, v, h => by simp at h
  | _, _, .cons hv t, h, v, hm => by
    simp at h
    rcases List.mem_cons.1 hm with rfl | hm
    · exact hv.oneCell h.1
    · exact VsRel.oneCell t (by simpa using h.2) v hm

theorem Sim.storeCells {β : Emb} {H : IHeap} {w : World} (S : Sim β H w) (P : Program) {id off : Nat} {l : Loc} {cs vs vs' : List Value} (hid : β.loc id = some l) (hH : H[id]? = some (.cells cs true))
    (hl : off + vs.length ≤ cs.length) (hv : VsRel β.loc vs vs') (h1 : vs.all okCell = true) :
    ∃ w', (Go.storeCells ⟨l.block, l.base + off, none⟩ vs').run P w = .ok () w' ∧ Step β w β w' ∧ Sim β (H.set id (.cells (splice cs off vs) true)) w' := by
  obtain ⟨hrw, hb, arr, T, xs, h2, h3, hlast, h4, h5⟩ := S.obj id l _ hid hH
  have hxl : xs.length = cs.length := h4.length
  have hst := run_storeCells_at P l.block (l.base + off) T vs' 0 arr w h2 (by rw [hv.length]; omega) (hv.oneCell h1)
  refine ⟨_, hst, Step.write hid (by simp) (fun k hk => setRow_other w _ k _ hk), S.write hid hH rfl (below_setRow (Below.refl _ _) hb _) (fun k hk => setRow_other w _ k _ hk) ?_⟩
  refine ⟨hrw, hb, _, T, splice xs off vs', setRow_heap w _ arr _ T _ h2, ?_, ?_, h4.splice hv off, fun i v hi => ?_⟩
  · have := hv.length; simp; omega
  · rw [splice_length hl]; exact hlast
  · have hvl := hv.length
    have hlen := splice_length (cs := xs) (vs := vs') (o := off) (by omega)
    have hi' := get_lt hi
    rw [splice_get (by omega)] at hi
    have e : ((arr.toList.take (l.base + off + 0) ++ vs' ++ arr.toList.drop (l.base + off + 0 + vs'.length)).toArray)[l.base + i]? = (splice arr.toList (l.base + off) vs')[l.base + i]? := by
      simp [splice]
    rw [e, splice_get (by simp; omega)]
    by_cases c1 : i < off
    · rw [if_pos c1] at hi
      rw [if_pos (by omega)]
      simpa using h5 i v hi
    · rw [if_neg c1] at hi
      rw [if_neg (by omega)]
      by_cases c2 : i < off + vs'.length
      · rw [if_pos c2] at hi
        rw [if_pos (by omega)]
        rwa [show l.base + i - (l.base + off) = i - off by omega]
      · rw [if_neg c2] at hi
        rw [if_neg (by omega)]
        simpa using h5 i v hi

end Ide
