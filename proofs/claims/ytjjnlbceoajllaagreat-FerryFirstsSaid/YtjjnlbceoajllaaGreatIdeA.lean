/- Ideal values and heaps, and how a world of the machine carries an ideal heap. -/
import Derived.CallsIn
import Derived.RangeFuncIn
import Derived.RangeFuncLeaves
import Derived.Below
import Derived.KernelRfl
set_option linter.unusedVariables false
set_option linter.unusedSimpArgs false
namespace Ide
open Go Go.RowKit

/-- A value of which nothing is known. -/
def anyV : Value := .chan none

/-- Where an ideal block lies in the machine: its block, the place at which it begins there, the cells of that block, and whether it may be written. -/
structure Loc where
  block : Nat
  base : Nat
  size : Nat
  rw : Bool

abbrev LMap := Nat → Option Loc

mutual
inductive VRel (L : LMap) : Value → Value → Prop
  | any (v : Value) : VRel L anyV v
  | bool (b : Bool) : VRel L (.bool b) (.bool b)
  | int (k : IntKind) (n : Int) : VRel L (.int k n) (.int k n)
  | str (s : ByteArray) : VRel L (.string s) (.string s)
  | ptrNil : VRel L (.pointer none) (.pointer none)
  | ptr {id off : Nat} {l : Loc} (h : L id = some l) : VRel L (.pointer (some ⟨id, off, none⟩)) (.pointer (some ⟨l.block, l.base + off, none⟩))
  | sliceNil : VRel L (.slice none 0 0) (.slice none 0 0)
  | slice {id off q n m o' c : Nat} {l : Loc} (h : L id = some l) (hn : n ≤ m) (hm : m ≤ c) (hx : q % 2 = 1 → c = m) (ho : o' = l.base + off ∨ c = 0) (hb : l.rw = true → o' + c * (q / 2) ≤ l.size) :
      VRel L (.slice (some ⟨id, off, some q⟩) n m) (.slice (some ⟨l.block, o', none⟩) n c)
  | mapNil : VRel L (.map none) (.map none)
  | map {id : Nat} {l : Loc} (h : L id = some l) : VRel L (.map (some id)) (.map (some l.block))
  | func {f : FuncId} {a b c d : List Value} (h1 : VsRel L a b) (h2 : VsRel L c d) : VRel L (.func (.func f) ⟨a⟩ ⟨c⟩) (.func (.func f) ⟨b⟩ ⟨d⟩)
  | yield {id : Nat} {l : Loc} (h : L id = some l) : VRel L (.func (.yield id) #[] #[]) (.func (.yield l.block) #[] #[])
  | nilFunc : VRel L .nilFunc .nilFunc
  | nilIface : VRel L .nilIface .nilIface
  | iface {t : TypeId} {v v' : Value} (h : VRel L v v') : VRel L (.iface t v) (.iface t v')
  | agg {a b : List Value} (h : VsRel L a b) : VRel L (.agg ⟨a⟩) (.agg ⟨b⟩)
  | tuple {a b : List Value} (h : VsRel L a b) : VRel L (.tuple ⟨a⟩) (.tuple ⟨b⟩)
inductive VsRel (L : LMap) : List Value → List Value → Prop
  | nil : VsRel L [] []
  | cons {v v' : Value} {a b : List Value} (h : VRel L v v') (t : VsRel L a b) : VsRel L (v :: a) (v' :: b)
 end

def LMap.le (L L' : LMap) : Prop := ∀ id l, L id = some l → L' id = some l
theorem LMap.le.refl (L : LMap) : L.le L := fun _ _ h => h
theorem LMap.le.trans {L L' L'' : LMap} (h : L.le L') (h' : L'.le L'') : L.le L'' := fun i l x => h' i l (h i l x)

mutual
theorem VRel.mono {L L' : LMap} (hL : L.le L') : ∀ {v v' : Value}, VRel L v v' → VRel L' v v'
  | _, _, .any v => .any v
  | _, _, .bool b => .bool b
  | _, _, .int k n => .int k n
  | _, _, .str s => .str s
  | _, _, .ptrNil => .ptrNil
  | _, _, .ptr h => .ptr (hL _ _ h)
  | _, _, .sliceNil => .sliceNil
  | _, _, .slice h hn hm hx ho hb => .slice (hL _ _ h) hn hm hx ho hb
  | _, _, .mapNil => .mapNil
  | _, _, .map h => .map (hL _ _ h)
  | _, _, .func h1 h2 => .func (VsRel.mono hL h1) (VsRel.mono hL h2)
  | _, _, .yield h => .yield (hL _ _ h)
  | _, _, .nilFunc => .nilFunc
  | _, _, .nilIface => .nilIface
  | _, _, .iface h => .iface (VRel.mono hL h)
  | _, _, .agg h => .agg (VsRel.mono hL h)
  | _, _, .tuple h => .tuple (VsRel.mono hL h)
theorem VsRel.mono {L L' : LMap} (hL : L.le L') : ∀ {a b : List Value}, VsRel L a b → VsRel L' a b
  | _, _, .nil => .nil
  | _, _, .cons h t => .cons (VRel.mono hL h) (VsRel.mono hL t)
 end

theorem VsRel.length {L : LMap} : ∀ {a b : List Value}, VsRel L a b → b.length = a.length
  | _, _, .nil => rfl
  | _, _, .cons _ t => congrArg (· + 1) (VsRel.length t)

theorem VsRel.get {L : LMap} : ∀ {a b : List Value}, VsRel L a b → ∀ {i : Nat} {v : Value}, a[i]? = some v → ∃ v', b[i]? = some v' ∧ VRel L v v'
  | _, _, .nil, i, v, h => by simp at h
  | _, _, .cons hv t, 0, v, h => by simp at h; subst h; exact ⟨_, by simp, hv⟩
  | _, _, .cons _ t, i + 1, v, h => by simp at h; obtain ⟨v', h1, h2⟩ := VsRel.get t h; exact ⟨v', by simpa using h1, h2⟩

theorem VsRel.get' {L : LMap} : ∀ {a b : List Value}, VsRel L a b → ∀ {i : Nat} {v' : Value}, b[i]? = some v' → ∃ v, a[i]? = some v ∧ VRel L v v'
  | _, _, .nil, i, v, h => by simp at h
  | _, _, .cons hv t, 0, v, h => by simp at h; subst h; exact ⟨_, by simp, hv⟩
  | _, _, .cons _ t, i + 1, v, h => by simp at h; obtain ⟨v', h1, h2⟩ := VsRel.get' t h; exact ⟨v', by simpa using h1, h2⟩

theorem VsRel.of_get {L : LMap} : ∀ {a b : List Value}, b.length = a.length → (∀ (i : Nat) (v v' : Value), a[i]? = some v → b[i]? = some v' → VRel L v v') → VsRel L a b
  | [], [], _, _ => .nil
  | [], _ :: _, h, _ => by simp at h
  | _ :: _, [], h, _ => by simp at h
  | v :: a, v' :: b, h, hg => .cons (hg 0 v v' rfl rfl) (VsRel.of_get (by simpa using h) fun i x x' h1 h2 => hg (i + 1) x x' (by simpa using h1) (by simpa using h2))

theorem VsRel.append {L : LMap} : ∀ {a b c d : List Value}, VsRel L a b → VsRel L c d → VsRel L (a ++ c) (b ++ d)
  | _, _, _, _, .nil, h => h
  | _, _, _, _, .cons hv t, h => .cons hv (VsRel.append t h)

theorem VsRel.set {L : LMap} : ∀ {a b : List Value}, VsRel L a b → ∀ (i : Nat) {v v' : Value}, VRel L v v' → VsRel L (a.set i v) (b.set i v')
  | _, _, .nil, _, _, _, _ => .nil
  | _, _, .cons hv t, 0, _, _, h => .cons h t
  | _, _, .cons hv t, i + 1, _, _, h => .cons hv (VsRel.set t i h)

theorem VsRel.take {L : LMap} : ∀ {a b : List Value}, VsRel L a b → ∀ (n : Nat), VsRel L (a.take n) (b.take n)
  | _, _, .nil, n => by simpa using .nil
  | _, _, .cons hv t, 0 => by simpa using .nil
  | _, _, .cons hv t, n + 1 => by simpa using .cons hv (VsRel.take t n)

theorem VsRel.drop {L : LMap} : ∀ {a b : List Value}, VsRel L a b → ∀ (n : Nat), VsRel L (a.drop n) (b.drop n)
  | _, _, .nil, n => by simpa using .nil
  | _, _, .cons hv t, 0 => .cons hv t
  | _, _, .cons hv t, n + 1 => by simpa using VsRel.drop t n

theorem VsRel.replicate {L : LMap} {v v' : Value} (h : VRel L v v') : ∀ n, VsRel L (List.replicate n v) (List.replicate n v')
  | 0 => .nil
  | n + 1 => .cons h (VsRel.replicate h n)

/-- A value that holds no place of memory. -/
def ground : Value → Bool
  | .bool _ | .int .. | .string _ | .pointer none | .slice none 0 0 | .map none | .nilFunc | .nilIface => true
  | .iface _ v => ground v
  | .agg cs => groundA cs
  | _ => false
  where
  groundA : Array Value → Bool
    | ⟨l⟩ => groundL l
  groundL : List Value → Bool
    | [] => true
    | v :: l => ground v && groundL l

mutual
theorem VRel.of_ground (L : LMap) : ∀ (v : Value), ground v = true → VRel L v v
  | .bool _, _ => .bool _
  | .int .., _ => .int ..
  | .string _, _ => .str _
  | .pointer none, _ => .ptrNil
  | .pointer (some _), h => by simp [ground] at h
  | .slice none 0 0, _ => .sliceNil
  | .slice none 0 (_ + 1), h => by simp [ground] at h
  | .slice none (_ + 1) _, h => by simp [ground] at h
  | .slice (some _) _ _, h => by simp [ground] at h
  | .map none, _ => .mapNil
  | .map (some _), h => by simp [ground] at h
  | .nilFunc, _ => .nilFunc
  | .nilIface, _ => .nilIface
  | .iface t v, h => .iface (VRel.of_ground L v (by simpa [ground] using h))
  | .agg ⟨l⟩, h => .agg (VsRel.of_ground L l (by simpa [ground, ground.groundA] using h))
  | .float .., h => by simp [ground] at h
  | .complex .., h => by simp [ground] at h
  | .chan _, h => by simp [ground] at h
  | .func .., h => by simp [ground] at h
  | .tuple _, h => by simp [ground] at h
theorem VsRel.of_ground (L : LMap) : ∀ (l : List Value), ground.groundL l = true → VsRel L l l
  | [], _ => .nil
  | v :: l, h => by
    have h' : ground v = true ∧ ground.groundL l = true := by simpa [ground.groundL] using h
    exact .cons (VRel.of_ground L v h'.1) (VsRel.of_ground L l h'.2)
 end

mutual
theorem VRel.eq_of_ground {L : LMap} : ∀ {v v' : Value}, VRel L v v' → ground v = true → v' = v
  | _, _, .any v, h => by simp [ground, anyV] at h
  | _, _, .bool b, _ => rfl
  | _, _, .int k n, _ => rfl
  | _, _, .str s, _ => rfl
  | _, _, .ptrNil, _ => rfl
  | _, _, .ptr _, h => by simp [ground] at h
  | _, _, .sliceNil, _ => rfl
  | _, _, .slice .., h => by simp [ground] at h
  | _, _, .mapNil, _ => rfl
  | _, _, .map _, h => by simp [ground] at h
  | _, _, .func .., h => by simp [ground] at h
  | _, _, .yield _, h => by simp [ground] at h
  | _, _, .nilFunc, _ => rfl
  | _, _, .nilIface, _ => rfl
  | _, _, .iface hv, h => by rw [VRel.eq_of_ground hv (by simpa [ground] using h)]
  | _, _, .agg hs, h => by rw [VsRel.eq_of_ground hs (by simpa [ground, ground.groundA] using h)]
  | _, _, .tuple _, h => by simp [ground] at h
theorem VsRel.eq_of_ground {L : LMap} : ∀ {a b : List Value}, VsRel L a b → ground.groundL a = true → b = a
  | _, _, .nil, _ => rfl
  | _, _, .cons hv t, h => by
    rename_i v v' a b
    have h' : ground v = true ∧ ground.groundL a = true := by simpa [ground.groundL] using h
    rw [VRel.eq_of_ground hv h'.1, VsRel.eq_of_ground t h'.2]
 end

/-! ### what a related value looks like -/
theorem VRel.inv_bool {L : LMap} {b : Bool} {v : Value} (h : VRel L (.bool b) v) : v = .bool b := h.eq_of_ground rfl
theorem VRel.inv_int {L : LMap} {k : IntKind} {n : Int} {v : Value} (h : VRel L (.int k n) v) : v = .int k n := h.eq_of_ground rfl
theorem VRel.inv_str {L : LMap} {s : ByteArray} {v : Value} (h : VRel L (.string s) v) : v = .string s := h.eq_of_ground rfl
theorem VRel.inv_ptr {L : LMap} {id off : Nat} {sp : Option Nat} {v : Value} (h : VRel L (.pointer (some ⟨id, off, sp⟩)) v) : sp = none ∧ ∃ l, L id = some l ∧ v = .pointer (some ⟨l.block, l.base + off, none⟩) := by
  cases h with | ptr h => exact ⟨rfl, _, h, rfl⟩
theorem VRel.inv_agg {L : LMap} {a : List Value} {v : Value} (h : VRel L (.agg ⟨a⟩) v) : ∃ b, v = .agg ⟨b⟩ ∧ VsRel L a b := by
  cases h with | agg h => exact ⟨_, rfl, h⟩
theorem VRel.inv_slice {L : LMap} {a : Option Addr} {n m : Nat} {v : Value} (h : VRel L (.slice a n m) v) :
    (a = none ∧ n = 0 ∧ m = 0 ∧ v = .slice none 0 0) ∨ ∃ id off q l o' c, a = some ⟨id, off, some q⟩ ∧ L id = some l ∧ v = .slice (some ⟨l.block, o', none⟩) n c ∧ n ≤ m ∧ m ≤ c ∧ (q % 2 = 1 → c = m) ∧ (o' = l.base + off ∨ c = 0) ∧ (l.rw = true → o' + c * (q / 2) ≤ l.size) := by
  cases h with
  | sliceNil => exact .inl ⟨rfl, rfl, rfl, rfl⟩
  | slice h hn hm hx ho hb => exact .inr ⟨_, _, _, _, _, _, rfl, h, rfl, hn, hm, hx, ho, hb⟩
theorem VRel.inv_map {L : LMap} {r : Option Nat} {v : Value} (h : VRel L (.map r) v) : (r = none ∧ v = .map none) ∨ ∃ id l, r = some id ∧ L id = some l ∧ v = .map (some l.block) := by
  cases h with
  | mapNil => exact .inl ⟨rfl, rfl⟩
  | map h => exact .inr ⟨_, _, rfl, h, rfl⟩

/-! ### environments: what is known of a frame's temporaries -/
abbrev Env := List (Nat × Value)

def lk : Env → Nat → Value
  | [], _ => anyV
  | (s, v) :: r, t => bif Nat.beq s t then v else lk r t

def TRel (L : LMap) (nt : Nat) (e : Env) (tm : Array Value) : Prop := tm.size = nt ∧ ∀ t, t < nt → VRel L (lk e t) (tm.getD t undef)
theorem TRel.mono {L L' : LMap} (hL : L.le L') {nt : Nat} {e : Env} {tm : Array Value} (h : TRel L nt e tm) : TRel L' nt e tm := ⟨h.1, fun t ht => (h.2 t ht).mono hL⟩

/-! ### ideal heaps -/
inductive IObj where
  | cells (cs : List Value) (rw : Bool)
  | dead
  | map (es : List MapEntry) (clock : Nat)
  | loop (st : LoopState) (pend : Option Code) (fn : FuncId) (tm : List (Nat × Value)) (nt : Nat) (params : Array Tmp) (assign body : Code)
  | mapIter (m : Option Nat) (since : Nat) (seen : Array Nat) (stepped : Nat)

abbrev IHeap := List IObj

def EsRel (L : LMap) : List MapEntry → List MapEntry → Prop
  | [], [] => True
  | e :: a, e' :: b => e'.key = e.key ∧ ground e.key = true ∧ e'.born = e.born ∧ VRel L e.val e'.val ∧ EsRel L a b
  | _, _ => False

theorem EsRel.mono {L L' : LMap} (hL : L.le L') : ∀ {a b : List MapEntry}, EsRel L a b → EsRel L' a b
  | [], [], h => h
  | _ :: _, _ :: _, ⟨h1, h2, h3, h4, h5⟩ => ⟨h1, h2, h3, h4.mono hL, h5.mono hL⟩
  | [], _ :: _, h => h.elim
  | _ :: _, [], h => h.elim

/-- What the machine holds for an ideal block. -/
def ORel (L : LMap) (w0 w : World) (l : Loc) : IObj → Prop
  | .cells cs true => l.rw = true ∧ w0.heap.size ≤ l.block ∧ ∃ (arr : Array Value) (T : TypeId) (vs : List Value), w.heap[l.block]? = some (.cells arr T (0, 0)) ∧ arr.size = l.size ∧ l.base + cs.length ≤ l.size ∧ VsRel L cs vs ∧ ∀ (i : Nat) (v : Value), vs[i]? = some v → arr[l.base + i]? = some v
  | .cells cs false => l.rw = false ∧ l.block < w0.heap.size ∧ ∃ vs : List Value, VsRel L cs vs ∧ ∀ (i : Nat) (v : Value), vs[i]? = some v → w0.cell? ⟨l.block, l.base + i, none⟩ = some v
  | .dead => True
  | .map es clock => w0.heap.size ≤ l.block ∧ ∃ es' : Array MapEntry, w.heap[l.block]? = some (.map es' clock) ∧ EsRel L es es'.toList
  | .loop st pend fn tm nt params assign body => w0.heap.size ≤ l.block ∧ ∃ (tm' : Array Value) (df : Nat) (fn' : FuncId), TRel L nt tm tm' ∧ w.heap[l.block]? = some (.loop { state := st, pending := pend, fn := fn', tmps := tm', params := params, assign := assign, body := body, defers := df })
  | .mapIter m since seen stepped => w0.heap.size ≤ l.block ∧ l.base = 0 ∧ ∃ m', w.heap[l.block]? = some (.mapIter m' since seen stepped) ∧ (match m with | none => m' = none | some id => ∃ lm, L id = some lm ∧ m' = some lm.block)

theorem ORel.mono {L L' : LMap} (hL : L.le L') {w0 w : World} {l : Loc} {o : IObj} (h : ORel L w0 w l o) : ORel L' w0 w l o := by
  match o, h with
  | .cells cs true, ⟨h0, h1, arr, T, vs, h2, h3, h3', h4, h5⟩ => exact ⟨h0, h1, arr, T, vs, h2, h3, h3', h4.mono hL, h5⟩
  | .cells cs false, ⟨h0, h1, vs, h2, h3⟩ => exact ⟨h0, h1, vs, h2.mono hL, h3⟩
  | .dead, _ => trivial
  | .map es clock, ⟨h1, es', h2, h3⟩ => exact ⟨h1, es', h2, h3.mono hL⟩
  | .loop .., ⟨h1, tm', df, fn', h2, h3⟩ => exact ⟨h1, tm', df, fn', h2.mono hL, h3⟩
  | .mapIter none .., ⟨h1, h2, m', h3, h4⟩ => exact ⟨h1, h2, m', h3, h4⟩
  | .mapIter (some id) .., ⟨h1, h2, m', h3, lm, h4, h5⟩ => exact ⟨h1, h2, m', h3, lm, hL _ _ h4, h5⟩

/-- A block that is alive and the call's own. -/
def IObj.own : IObj → Bool
  | .cells _ rw => rw
  | .dead => false
  | _ => true

structure Emb where
  w0 : World
  loc : LMap
  /-- Ideal blocks whose places are kept back. -/
  held : Nat → Prop

def Emb.le (β β' : Emb) : Prop := (β'.w0 = β.w0 ∧ β'.held = β.held) ∧ β.loc.le β'.loc
theorem Emb.le.refl (β : Emb) : β.le β := ⟨⟨rfl, rfl⟩, LMap.le.refl _⟩
theorem Emb.le.trans {a b c : Emb} (h : a.le b) (h' : b.le c) : a.le c := ⟨⟨h'.1.1.trans h.1.1, h'.1.2.trans h.1.2⟩, h.2.trans h'.2⟩

/-- The world w carries the ideal heap H. (Ideal blocks that have no place yet are not asked for.) -/
structure Sim (β : Emb) (H : IHeap) (w : World) : Prop where
  below : Below β.w0.heap.size β.w0 w
  dom : ∀ id l, β.loc id = some l → id < H.length
  held : ∀ id, β.held id → id < H.length ∧ β.loc id = none
  blk : ∀ id l, β.loc id = some l → l.block < w.heap.size
  obj : ∀ id l o, β.loc id = some l → H[id]? = some o → ORel β.loc β.w0 w l o
  inj : ∀ i j l l' o o', β.loc i = some l → β.loc j = some l' → H[i]? = some o → H[j]? = some o' → o.own = true → o'.own = true → l.block = l'.block → i = j

/-- An own block's machine block. -/
theorem ORel.block_lt {L : LMap} {w0 w : World} {l : Loc} {o : IObj} (h : ORel L w0 w l o) (ho : o.own = true) : l.block < w.heap.size ∧ w0.heap.size ≤ l.block := by
  have key : ∀ {x : Obj}, w.heap[l.block]? = some x → l.block < w.heap.size := fun h => (Array.getElem?_eq_some_iff.1 h).1
  match o, h with
  | .cells cs true, ⟨h0, h1, arr, T, vs, h2, _⟩ => exact ⟨key h2, h1⟩
  | .map es clock, ⟨h1, es', h2, _⟩ => exact ⟨key h2, h1⟩
  | .loop .., ⟨h1, tm', df, fn', _, h4⟩ => exact ⟨key h4, h1⟩
  | .mapIter .., ⟨h1, _, m', h3, _⟩ => exact ⟨key h3, h1⟩

/-- An object reads the same in a world that keeps its machine block (and the old memory is never looked up in the new world). -/
theorem ORel.keep {L : LMap} {w0 w w' : World} {l : Loc} {o : IObj} (h : ORel L w0 w l o) (hk : o.own = true → w'.heap[l.block]? = w.heap[l.block]?) : ORel L w0 w' l o := by
  match o, h with
  | .cells cs true, ⟨h0, h1, arr, T, vs, h2, h3⟩ => exact ⟨h0, h1, arr, T, vs, (hk rfl).trans h2, h3⟩
  | .cells cs false, h => exact h
  | .dead, _ => trivial
  | .map es clock, ⟨h1, es', h2, h3⟩ => exact ⟨h1, es', (hk rfl).trans h2, h3⟩
  | .loop .., ⟨h1, tm', df, fn', h2, h3⟩ => exact ⟨h1, tm', df, fn', h2, (hk rfl).trans h3⟩
  | .mapIter .., ⟨h1, h2, m', h3, h4⟩ => exact ⟨h1, h2, m', (hk rfl).trans h3, h4⟩

end Ide
