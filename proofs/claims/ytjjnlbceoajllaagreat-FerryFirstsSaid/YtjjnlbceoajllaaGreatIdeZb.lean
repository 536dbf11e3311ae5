/- A reckoner for the ideal meaning: values that are equal for certain; regions with an open order. -/
import Derived.Test.YtjjnlbceoajllaaGreatIdeZa
set_option linter.unusedVariables false
set_option linter.unusedSimpArgs false
namespace Ide
open Go Go.RowKit

def veq : Value → Value → Bool
  | .bool a, .bool b => a == b
  | .int k a, .int j b => kbeq k j && a == b
  | .string a, .string b => a.toList == b.toList
  | .pointer none, .pointer none => true
  | .pointer (some ⟨i, o, none⟩), .pointer (some ⟨j, p, none⟩) => Nat.beq i j && Nat.beq o p
  | .slice none n m, .slice none n' m' => Nat.beq n n' && Nat.beq m m'
  | .slice (some ⟨i, o, some q⟩) n m, .slice (some ⟨j, p, some r⟩) n' m' => Nat.beq i j && Nat.beq o p && Nat.beq q r && Nat.beq n n' && Nat.beq m m'
  | .map none, .map none => true
  | .map (some a), .map (some b) => Nat.beq a b
  | .nilFunc, .nilFunc => true
  | .nilIface, .nilIface => true
  | .agg a, .agg b => veqA a b
  | .tuple a, .tuple b => veqA a b
  | _, _ => false
  where
  veqA : Array Value → Array Value → Bool
    | ⟨a⟩, ⟨b⟩ => veqL a b
  veqL : List Value → List Value → Bool
    | [], [] => true
    | x :: a, y :: b => veq x y && veqL a b
    | _, _ => false

theorem str_eq {a b : ByteArray} (h : (a.toList == b.toList) = true) : a = b := by
  have h' : a.toList = b.toList := eq_of_beq h
  rw [ByteArray.toList_eq, ByteArray.toList_eq] at h'
  obtain ⟨⟨x⟩⟩ := a
  obtain ⟨⟨y⟩⟩ := b
  simp at h'
  rw [h']

mutual
theorem veq_eq : ∀ (a b : Value), veq a b = true → a = b
  | .bool a, b, h => by cases b <;> simp [veq] at h; rw [h]
  | .int k a, b, h => by cases b <;> simp [veq] at h; rw [kbeq_eq h.1, h.2]
  | .string a, b, h => by
    cases b <;> try (simp [veq] at h; done)
    rename_i b
    have h' : (a.toList == b.toList) = true := by simpa only [veq] using h
    rw [str_eq h']
  | .pointer none, b, h => by
    cases b <;> try (simp [veq] at h; done)
    rename_i b
    cases b with
    | none => rfl
    | some b => obtain ⟨j, p, s⟩ := b; cases s <;> simp [veq] at h
  | .pointer (some ⟨i, o, none⟩), b, h => by
    cases b <;> try (simp [veq] at h; done)
    rename_i b
    cases b with
    | none => simp [veq] at h
    | some b => obtain ⟨j, p, s⟩ := b; cases s <;> simp [veq] at h; rw [h.1, h.2]
  | .pointer (some ⟨i, o, some q⟩), b, h => by cases b <;> simp [veq] at h
  | .slice none n m, b, h => by
    cases b <;> try (simp [veq] at h; done)
    rename_i b n' m'
    cases b with
    | none => simp [veq] at h; rw [h.1, h.2]
    | some b => obtain ⟨j, p, s⟩ := b; cases s <;> simp [veq] at h
  | .slice (some ⟨i, o, none⟩) n m, b, h => by cases b <;> simp [veq] at h
  | .slice (some ⟨i, o, some q⟩) n m, b, h => by
    cases b <;> try (simp [veq] at h; done)
    rename_i b n' m'
    cases b with
    | none => simp [veq] at h
    | some b =>
      obtain ⟨j, p, s⟩ := b
      cases s <;> simp [veq] at h
      obtain ⟨⟨⟨⟨h1, h2⟩, h3⟩, h4⟩, h5⟩ := h
      rw [h1, h2, h3, h4, h5]
  | .map none, b, h => by
    cases b <;> try (simp [veq] at h; done)
    rename_i b
    cases b <;> simp [veq] at h
    rfl
  | .map (some a), b, h => by
    cases b <;> try (simp [veq] at h; done)
    rename_i b
    cases b <;> simp [veq] at h
    rw [h]
  | .nilFunc, b, h => by cases b <;> first | rfl | (simp [veq] at h; done)
  | .nilIface, b, h => by cases b <;> first | rfl | (simp [veq] at h; done)
  | .agg ⟨a⟩, b, h => by
    cases b <;> try (simp [veq] at h; done)
    rename_i b
    obtain ⟨b⟩ := b
    rw [veqL_eq a b (by simpa only [veq, veq.veqA] using h)]
  | .tuple ⟨a⟩, b, h => by
    cases b <;> try (simp [veq] at h; done)
    rename_i b
    obtain ⟨b⟩ := b
    rw [veqL_eq a b (by simpa only [veq, veq.veqA] using h)]
  | .float .., b, h => by simp [veq] at h
  | .complex .., b, h => by simp [veq] at h
  | .chan .., b, h => by simp [veq] at h
  | .func .., b, h => by simp [veq] at h
  | .iface .., b, h => by simp [veq] at h
theorem veqL_eq : ∀ (a b : List Value), veq.veqL a b = true → a = b
  | [], [], _ => rfl
  | [], _ :: _, h => by simp [veq.veqL] at h
  | _ :: _, [], h => by simp [veq.veqL] at h
  | x :: a, y :: b, h => by
    have h' : veq x y = true ∧ veq.veqL a b = true := by simpa [veq.veqL] using h
    rw [veq_eq x y h'.1, veqL_eq a b h'.2]
 end

def meq : List MapEntry → List MapEntry → Bool
  | [], [] => true
  | x :: a, y :: b => veq x.key y.key && veq x.val y.val && Nat.beq x.born y.born && meq a b
  | _, _ => false
theorem meq_eq : ∀ {a b : List MapEntry}, meq a b = true → a = b
  | [], [], _ => rfl
  | [], _ :: _, h => by cases h
  | _ :: _, [], h => by cases h
  | ⟨k, v, n⟩ :: a, ⟨k', v', n'⟩ :: b, h => by
    simp only [meq, Bool.and_eq_true] at h
    rw [veq_eq _ _ h.1.1.1, veq_eq _ _ h.1.1.2, Nat.eq_of_beq_eq_true h.1.2, meq_eq h.2]

def xreload (a v : Value) (h : XHeap) : Bool :=
  match xptr a with
  | some (i, o) =>
    (match v with
    | .agg ⟨cs⟩ => (match xcells h i o cs.length with | some cs' => veq.veqL cs' cs | none => false)
    | v => (match xcell h i o with | some u => veq u v | none => false))
  | none => false
theorem reload_cell {i o : Nat} {v : Value} {H : IHeap} (hn : ∀ cs, v = .agg ⟨cs⟩ → False) (h : cellAt H i o = some v) : reload (ptrTo i o) v H := by
  cases v with
  | agg cs => obtain ⟨cs⟩ := cs; exact (hn _ rfl).elim
  | _ => exact h

theorem xreload_sound {a v : Value} {h : XHeap} {H : IHeap} (hr : RepH H h) (hx : xreload a v h = true) : reload a v H := by
  unfold xreload at hx
  split at hx
  · rename_i i o hp
    rw [xptr_sound hp]
    split at hx
    · rename_i cs
      split at hx
      · rename_i cs' hc
        have := xcells_sound hr hc
        rw [veqL_eq _ _ hx] at this
        exact this
      · cases hx
    · rename_i hn
      split at hx
      · rename_i u hc
        have := (xcell_eq hr i o).trans hc
        rw [veq_eq _ _ hx] at this
        exact reload_cell hn this
      · cases hx
  · cases hx

def xremap (m : Value) (h h' : XHeap) : Bool :=
  match m with
  | .map (some r) => (match xmapAt h r, xmapAt h' r with | some (es, c), some (es', c') => meq es es' && Nat.beq c c' | _, _ => false)
  | .map none => true
  | .string _ => true
  | .slice .. => true
  | _ => false
theorem xremap_sound {m : Value} {h h' : XHeap} {H H' : IHeap} (hr : RepH H h) (hr' : RepH H' h') (hx : xremap m h h' = true) : remap m H H' := by
  unfold xremap at hx
  unfold remap
  split at hx
  · split at hx
    · rename_i es c es' c' h1 h2
      simp only [Bool.and_eq_true] at hx
      have e1 := xmapAt_sound hr h1
      have e2 := xmapAt_sound hr' h2
      rw [← meq_eq hx.1, ← Nat.eq_of_beq_eq_true hx.2] at e2
      exact ⟨es, c, e1, e2⟩
    · cases hx
  · trivial
  · trivial
  · trivial
  · cases hx

def xrearr (x : Value) (h h' : XHeap) : Bool :=
  match x with
  | .pointer (some ⟨b, _, none⟩) => (match h.t.get b, h'.t.get b with | some (.cells cs true), some (.cells cs' true) => Nat.beq cs'.length cs.length | _, _ => false)
  | _ => true
theorem xrearr_sound {x : Value} {h h' : XHeap} {H H' : IHeap} (hr : RepH H h) (hr' : RepH H' h') (hx : xrearr x h h' = true) : rearr x H H' := by
  unfold xrearr at hx
  unfold rearr
  split at hx
  · rename_i b o
    split at hx
    · rename_i cs cs' h1 h2
      exact ⟨cs, cs', (hr.2 b).trans h1, (hr'.2 b).trans h2, Nat.eq_of_beq_eq_true hx⟩
    · cases hx
  · rename_i hn
    split
    · exact (hn _ _ rfl).elim
    · trivial

def xmade (k : Nat) (h1 h' : XHeap) : Bool :=
  match h1.t.get k, h'.t.get k with
  | some (.cells a true), some (.cells b true) => veq.veqL a b
  | some (.map es c), some (.map es' c') => meq es es' && Nat.beq c c'
  | _, _ => false
theorem xmade_sound {k : Nat} {h1 h' : XHeap} {H1 H' : IHeap} (hr : RepH H1 h1) (hr' : RepH H' h') (hx : xmade k h1 h' = true) : ∃ o, H1[k]? = some o ∧ H'[k]? = some o := by
  unfold xmade at hx
  split at hx
  · rename_i a b h1 h2
    rw [← veqL_eq _ _ hx] at h2
    exact ⟨_, (hr.2 k).trans h1, (hr'.2 k).trans h2⟩
  · rename_i es c es' c' h1 h2
    simp only [Bool.and_eq_true] at hx
    rw [← meq_eq hx.1, ← Nat.eq_of_beq_eq_true hx.2] at h2
    exact ⟨_, (hr.2 k).trans h1, (hr'.2 k).trans h2⟩
  · cases hx

abbrev XWatch := List (Nat × (XHeap → Bool))

def xwatchOf (i : Nat) (o : Oper) (e : XEnv) (v : Value) (h h1 : XHeap) : XWatch :=
  match o.op with
  | .load _ a => [(i, xreload (xev e a) v)]
  | .lookup _ m _ _ => [(i, xremap (xev e m) h)]
  | .slice _ x _ _ _ => [(i, xrearr (xev e x) h)]
  | .call { args := ⟨x :: _⟩, callee := .builtin .len, .. } => [(i, xremap (xev e x) h)]
  | .alloc _ | .box .. | .buildSlice .. | .makeMap .. | .makeSlice .. => [(i, xmade h.n h1)]
  | _ => []

def xwatching : XWatch → Nat → XHeap → Bool
  | [], _, _ => true
  | (k, w) :: r, bm, h => (bif bm.testBit k then true else w h) && xwatching r bm h

inductive RepW : Watch → XWatch → Prop
  | nil : RepW [] []
  | cons {k : Nat} {w : IHeap → Prop} {x : XHeap → Bool} {ws : Watch} {xs : XWatch} (h : ∀ H h', RepH H h' → x h' = true → w H) (t : RepW ws xs) : RepW ((k, w) :: ws) ((k, x) :: xs)

theorem RepW.append {a b : Watch} {x y : XWatch} (h : RepW a x) (h' : RepW b y) : RepW (a ++ b) (x ++ y) := by
  induction h with
  | nil => exact h'
  | cons hh _ ih => exact .cons hh ih

theorem xwatchOf_rep {i : Nat} {o : Oper} {env : Env} {e : XEnv} {v : Value} {H H1 : IHeap} {h h1 : XHeap} (he : RepE env e) (hr : RepH H h) (hr1 : RepH H1 h1) : RepW (watchOf i o env v H H1) (xwatchOf i o e v h h1) := by
  have hev : ∀ x, iev env x = xev e x := xev_eq he
  have made : RepW [(i, fun H' => ∃ o, H1[H.length]? = some o ∧ H'[H.length]? = some o)] [(i, xmade h.n h1)] :=
    .cons (fun H' h' hr' hx => by rw [hr.1]; exact xmade_sound hr1 hr' hx) .nil
  unfold watchOf xwatchOf
  generalize o.op = op
  cases op with
  | load t a => exact .cons (fun H' h' hr' hx => by rw [hev]; exact xreload_sound hr' hx) .nil
  | lookup t m k ok => exact .cons (fun H' h' hr' hx => by rw [hev]; exact xremap_sound hr hr' hx) .nil
  | call c =>
    obtain ⟨callee, ⟨as⟩, tys⟩ := c
    cases callee with
    | builtin b =>
      cases b with
      | len =>
        cases as with
        | nil => exact .nil
        | cons x as => exact .cons (fun H' h' hr' hx => by rw [hev]; exact xremap_sound hr hr' hx) .nil
      | _ => cases as <;> exact .nil
    | _ => cases as <;> exact .nil
  | slice t x lo hi mx => exact .cons (fun H' h' hr' hx => by rw [hev]; exact xrearr_sound hr hr' hx) .nil
  | alloc t => exact made
  | box t x => exact made
  | buildSlice t n ps => exact made
  | makeMap t r => exact made
  | makeSlice t l c => exact made
  | _ => exact .nil

theorem xwatching_sound {ws : Watch} {xs : XWatch} (hw : RepW ws xs) {bm : Nat} {H : IHeap} {h : XHeap} (hr : RepH H h) (hx : xwatching xs bm h = true) {X : Prop} (hX : X) : watching ws bm H X := by
  induction hw with
  | nil => exact hX
  | @cons k w x ws xs hh _ ih =>
    simp only [xwatching, Bool.and_eq_true] at hx
    simp only [watching]
    cases hb : bm.testBit k with
    | true => exact ih hx.2
    | false =>
      rw [hb] at hx
      exact ⟨hh _ _ hr hx.1, ih hx.2⟩

def xopsD (P : Program) (call : XCall) (all : List Oper) (bs : List Nat) : List Nat → XEnv → XHeap → XWatch → Option (XEnv × XHeap)
  | [], e, h, _ => some (e, h)
  | i :: l, e, h, ws =>
    match all[i]? with
    | none => none
    | some o =>
      match xguard all o.guard e with
      | some true =>
        (match xdo P call o e h with
        | some (v, h') =>
          (match xput e o.dst v with
          | some e' =>
            bif isActs o then (bif xwatching ws (bs.getD i 0) h' then xopsD P call all bs l e' h' ws else none)
            else xopsD P call all bs l e' h' (xwatchOf i o e v h h' ++ ws)
          | none => none)
        | none => none)
      | some false => (match xput e o.dst undef with | some e' => xopsD P call all bs l e' h ws | none => none)
      | none => none

theorem xopsD_sound {P : Program} {call : XCall} (hc : CallOk P call) {all : List Oper} {bs : List Nat} : ∀ (l : List Nat) {H : IHeap} {h : XHeap} {env : Env} {e : XEnv} {ws : Watch} {xs : XWatch} {r : XEnv × XHeap}, RepE env e → RepH H h → RepW ws xs → xopsD P call all bs l e h xs = some r →
    ∃ env' H', RepE env' r.1 ∧ RepH H' r.2 ∧ ∀ (K : Env → IHeap → Prop) (Qp : Value → IHeap → Prop), K env' H' → irunD P all bs l env H ws K Qp
  | [], H, h, env, e, ws, xs, r, he, hr, hw, hx => by
    simp only [xopsD] at hx
    cases hx
    exact ⟨env, H, he, hr, fun K Qp h => h⟩
  | i :: l, H, h, env, e, ws, xs, r, he, hr, hw, hx => by
    simp only [xopsD] at hx
    simp only [irunD]
    split at hx
    · cases hx
    · rename_i o ho
      simp only [ho]
      split at hx
      · rename_i hg
        obtain ⟨env1, he1, hG⟩ := xguard_sound he hg
        split at hx
        · rename_i v h' hd
          split at hx
          · rename_i e' hp
            obtain ⟨H1, hr1, hK⟩ := xdo_sound hc he1 hr hd
            cases ha : isActs o with
            | true =>
              rw [ha] at hx
              simp only [cond_true] at hx
              obtain ⟨hb, hx⟩ := bif_some hx
              obtain ⟨env', H', g1, g2, g3⟩ := xopsD_sound hc l (xput_rep he1 hp) hr1 hw hx
              refine ⟨env', H', g1, g2, fun K Qp hk => hG _ _ (fun _ => hK _ _ ?_) (fun h => by cases h)⟩
              exact xwatching_sound hw hr1 hb (g3 K Qp hk)
            | false =>
              rw [ha] at hx
              simp only [cond_false] at hx
              obtain ⟨env', H', g1, g2, g3⟩ := xopsD_sound hc l (xput_rep he1 hp) hr1 ((xwatchOf_rep he1 hr hr1).append hw) hx
              exact ⟨env', H', g1, g2, fun K Qp hk => hG _ _ (fun _ => hK _ _ (g3 K Qp hk)) (fun h => by cases h)⟩
          · cases hx
        · cases hx
      · rename_i hg
        obtain ⟨env1, he1, hG⟩ := xguard_sound he hg
        split at hx
        · rename_i e' hp
          obtain ⟨env', H', g1, g2, g3⟩ := xopsD_sound hc l (xput_rep he1 hp) hr hw hx
          exact ⟨env', H', g1, g2, fun K Qp hk => hG _ _ (fun h => by cases h) (fun _ => g3 K Qp hk)⟩
        · cases hx
      · cases hx

end Ide
