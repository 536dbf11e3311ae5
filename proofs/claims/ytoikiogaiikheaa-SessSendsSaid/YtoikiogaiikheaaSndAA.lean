/- Ideal values and heaps, and how a world of the machine carries an ideal heap. -/
import Derived.CallsIn
import Derived.RangeFuncIn
import Derived.RangeFuncLeaves
import Derived.Below
import Derived.KernelRfl
set_option linter.unusedSectionVars false
set_option linter.unusedVariables false
set_option linter.unusedSimpArgs false
namespace Ide
open Go Go.RowKit

/-- A value of which nothing is known. -/
def anyV : Value := .chan none

/-- Where an ideal block lies in the machine: its block, the place at which it begins there, the cells of that block, and whether it may be written. -/
structure Loc where
  block : Nat
  base : Nat
  size : Nat
  rw : Bool

abbrev LMap := Nat → Option Loc

mutual
inductive VRel (L : LMap) : Value → Value → Prop
  | any (v : Value) : VRel L anyV v
  | bool (b : Bool) : VRel L (.bool b) (.bool b)
  | int (k : IntKind) (n : Int) : VRel L (.int k n) (.int k n)
  | str (s : ByteArray) : VRel L (.string s) (.string s)
  | ptrNil : VRel L (.pointer none) (.pointer none)
  | ptr {id off : Nat} {l : Loc} (h : L id = some l) : VRel L (.pointer (some ⟨id, off, none⟩)) (.pointer (some ⟨l.block, l.base + off, none⟩))
  | sliceNil : VRel L (.slice none 0 0) (.slice none 0 0)
  /-- An empty slice may be nil. -/
  | sliceE {id off q : Nat} (hq : q % 2 = 0) : VRel L (.slice (some ⟨id, off, some q⟩) 0 0) (.slice none 0 0)
  | slice {id off q n m o' c : Nat} {l : Loc} (h : L id = some l) (hn : n ≤ m) (hm : m ≤ c) (hx : q % 2 = 1 → c = m) (ho : o' = l.base + off ∨ c = 0) (hb : l.rw = true → o' + c * (q / 2) ≤ l.size) :
      VRel L (.slice (some ⟨id, off, some q⟩) n m) (.slice (some ⟨l.block, o', none⟩) n c)
  | mapNil : VRel L (.map none) (.map none)
  | map {id : Nat} {l : Loc} (h : L id = some l) : VRel L (.map (some id)) (.map (some l.block))
  | func {f : FuncId} {a b c d : List Value} (h1 : VsRel L a b) (h2 : VsRel L c d) : VRel L (.func (.func f) ⟨a⟩ ⟨c⟩) (.func (.func f) ⟨b⟩ ⟨d⟩)
  | yield {id : Nat} {l : Loc} (h : L id = some l) : VRel L (.func (.yield id) #[] #[]) (.func (.yield l.block) #[] #[])
  | nilFunc : VRel L .nilFunc .nilFunc
  | nilIface : VRel L .nilIface .nilIface
  | iface {t : TypeId} {v v' : Value} (h : VRel L v v') : VRel L (.iface t v) (.iface t v')
  | agg {a b : List Value} (h : VsRel L a b) : VRel L (.agg ⟨a⟩) (.agg ⟨b⟩)
  | tuple {a b : List Value} (h : VsRel L a b) : VRel L (.tuple ⟨a⟩) (.tuple ⟨b⟩)
inductive VsRel (L : LMap) : List Value → List Value → Prop
  | nil : VsRel L [] []
  | cons {v v' : Value} {a b : List Value} (h : VRel L v v') (t : VsRel L a b) : VsRel L (v :: a) (v' :: b)
 end

def LMap.le (L L' : LMap) : Prop := ∀ id l, L id = some l → L' id = some l
theorem LMap.le.refl (L : LMap) : L.le L := fun _ _ h => h
theorem LMap.le.trans {L L' L'' : LMap} (h : L.le L') (h' : L'.le L'') : L.le L'' := fun i l x => h' i l (h i l x)

mutual
theorem VRel.mono {L L' : LMap} (hL : L.le L') : ∀ {v v' : Value}, VRel L v v' → VRel L' v v'
  | _, _, .any v => .any v
  | _, _, .bool b => .bool b
  | _, _, .int k n => .int k n
  | _, _, .str s => .str s
  | _, _, .ptrNil => .ptrNil
  | _, _, .ptr h => .ptr (hL _ _ h)
  | _, _, .sliceNil => .sliceNil
  | _, _, .sliceE hq => .sliceE hq
  | _, _, .slice h hn hm hx ho hb => .slice (hL _ _ h) hn hm hx ho hb
  | _, _, .mapNil => .mapNil
  | _, _, .map h => .map (hL _ _ h)
  | _, _, .func h1 h2 => .func (VsRel.mono hL h1) (VsRel.mono hL h2)
  | _, _, .yield h => .yield (hL _ _ h)
  | _, _, .nilFunc => .nilFunc
  | _, _, .nilIface => .nilIface
  | _, _, .iface h => .iface (VRel.mono hL h)
  | _, _, .agg h => .agg (VsRel.mono hL h)
  | _, _, .tuple h => .tuple (VsRel.mono hL h)
theorem VsRel.mono {L L' : LMap} (hL : L.le L') : ∀ {a b : List Value}, VsRel L a b → VsRel L' a b
  | _, _, .nil => .nil
  | _, _, .cons h t => .cons (VRel.mono hL h) (VsRel.mono hL t)
 end

theorem VsRel.length {L : LMap} : ∀ {a b : List Value}, VsRel L a b → b.length = a.length
  | _, _, .nil => rfl
  | _, _, .cons _ t => congrArg (· + 1) (VsRel.length t)

theorem VsRel.get {L : LMap} : ∀ {a b : List Value}, VsRel L a b → ∀ {i : Nat} {v : Value}, a[i]? = some v → ∃ v', b[i]? = some v' ∧ VRel L v v'
  | _, _, .nil, i, v, h => by simp at h
  | _, _, .cons hv t, 0, v, h => by simp at h; subst h; exact ⟨_, by simp, hv⟩
  | _, _, .cons _ t, i + 1, v, h => by simp at h; obtain ⟨v', h1, h2⟩ := VsRel.get t h; exact ⟨v', by simpa using h1, h2⟩

theorem VsRel.get' {L : LMap} : ∀ {a b : List Value}, VsRel L a b → ∀ {i : Nat} {v' : Value}, b[i]? = some v' → ∃ v, a[i]? = some v ∧ VRel L v v'
  | _, _, .nil, i, v, h => by simp at h
  | _, _, .cons hv t, 0, v, h => by simp at h; subst h; exact ⟨_, by simp, hv⟩
  | _, _, .cons _ t, i + 1, v, h => by simp at h; obtain ⟨v', h1, h2⟩ := VsRel.get' t h; exact ⟨v', by simpa using h1, h2⟩

theorem VsRel.of_get {L : LMap} : ∀ {a b : List Value}, b.length = a.length → (∀ (i : Nat) (v v' : Value), a[i]? = some v → b[i]? = some v' → VRel L v v') → VsRel L a b
  | [], [], _, _ => .nil
  | [], _ :: _, h, _ => by simp at h
  | _ :: _, [], h, _ => by simp at h
  | v :: a, v' :: b, h, hg => .cons (hg 0 v v' rfl rfl) (VsRel.of_get (by simpa using h) fun i x x' h1 h2 => hg (i + 1) x x' (by simpa using h1) (by simpa using h2))

theorem VsRel.append {L : LMap} : ∀ {a b c d : List Value}, VsRel L a b → VsRel L c d → VsRel L (a ++ c) (b ++ d)
  | _, _, _, _, .nil, h => h
  | _, _, _, _, .cons hv t, h => .cons hv (VsRel.append t h)

theorem VsRel.set {L : LMap} : ∀ {a b : List Value}, VsRel L a b → ∀ (i : Nat) {v v' : Value}, VRel L v v' → VsRel L (a.set i v) (b.set i v')
  | _, _, .nil, _, _, _, _ => .nil
  | _, _, .cons hv t, 0, _, _, h => .cons h t
  | _, _, .cons hv t, i + 1, _, _, h => .cons hv (VsRel.set t i h)

theorem VsRel.take {L : LMap} : ∀ {a b : List Value}, VsRel L a b → ∀ (n : Nat), VsRel L (a.take n) (b.take n)
  | _, _, .nil, n => by simpa using .nil
  | _, _, .cons hv t, 0 => by simpa using .nil
  | _, _, .cons hv t, n + 1 => by simpa using .cons hv (VsRel.take t n)

theorem VsRel.drop {L : LMap} : ∀ {a b : List Value}, VsRel L a b → ∀ (n : Nat), VsRel L (a.drop n) (b.drop n)
  | _, _, .nil, n => by simpa using .nil
  | _, _, .cons hv t, 0 => .cons hv t
  | _, _, .cons hv t, n + 1 => by simpa using VsRel.drop t n

theorem VsRel.replicate {L : LMap} {v v' : Value} (h : VRel L v v') : ∀ n, VsRel L (List.replicate n v) (List.replicate n v')
  | 0 => .nil
  | n + 1 => .cons h (VsRel.replicate h n)

/-- A value that holds no place of memory. -/
def ground : Value → Bool
  | .bool _ | .int .. | .string _ | .pointer none | .slice none 0 0 | .map none | .nilFunc | .nilIface => true
  | .iface _ v => ground v
  | .agg cs => groundA cs
  | _ => false
  where
  groundA : Array Value → Bool
    | ⟨l⟩ => groundL l
  groundL : List Value → Bool
    | [] => true
    | v :: l => ground v && groundL l

mutual
theorem VRel.of_ground (L : LMap) : ∀ (v : Value), ground v = true → VRel L v v
  | .bool _, _ => .bool _
  | .int .., _ => .int ..
  | .string _, _ => .str _
  | .pointer none, _ => .ptrNil
  | .pointer (some _), h => by simp [ground] at h
  | .slice none 0 0, _ => .sliceNil
  | .slice none 0 (_ + 1), h => by simp [ground] at h
  | .slice none (_ + 1) _, h => by simp [ground] at h
  | .slice (some _) _ _, h => by simp [ground] at h
  | .map none, _ => .mapNil
  | .map (some _), h => by simp [ground] at h
  | .nilFunc, _ => .nilFunc
  | .nilIface, _ => .nilIface
  | .iface t v, h => .iface (VRel.of_ground L v (by simpa [ground] using h))
  | .agg ⟨l⟩, h => .agg (VsRel.of_ground L l (by simpa [ground, ground.groundA] using h))
  | .float .., h => by simp [ground] at h
  | .complex .., h => by simp [ground] at h
  | .chan _, h => by simp [ground] at h
  | .func .., h => by simp [ground] at h
  | .tuple _, h => by simp [ground] at h
theorem VsRel.of_ground (L : LMap) : ∀ (l : List Value), ground.groundL l = true → VsRel L l l
  | [], _ => .nil
  | v :: l, h => by
    have h' : ground v = true ∧ ground.groundL l = true := by simpa [ground.groundL] using h
    exact .cons (VRel.of_ground L v h'.1) (VsRel.of_ground L l h'.2)
 end

mutual
theorem VRel.eq_of_ground {L : LMap} : ∀ {v v' : Value}, VRel L v v' → ground v = true → v' = v
  | _, _, .any v, h => by simp [ground, anyV] at h
  | _, _, .bool b, _ => rfl
  | _, _, .int k n, _ => rfl
  | _, _, .str s, _ => rfl
  | _, _, .ptrNil, _ => rfl
  | _, _, .ptr _, h => by simp [ground] at h
  | _, _, .sliceNil, _ => rfl
  | _, _, .sliceE _, h => by simp [ground] at h
  | _, _, .slice .., h => by simp [ground] at h
  | _, _, .mapNil, _ => rfl
  | _, _, .map _, h => by simp [ground] at h
  | _, _, .func .., h => by simp [ground] at h
  | _, _, .yield _, h => by simp [ground] at h
  | _, _, .nilFunc, _ => rfl
  | _, _, .nilIface, _ => rfl
  | _, _, .iface hv, h => by rw [VRel.eq_of_ground hv (by simpa [ground] using h)]
  | _, _, .agg hs, h => by rw [VsRel.eq_of_ground hs (by simpa [ground, ground.groundA] using h)]
  | _, _, .tuple _, h => by simp [ground] at h
theorem VsRel.eq_of_ground {L : LMap} : ∀ {a b : List Value}, VsRel L a b → ground.groundL a = true → b = a
  | _, _, .nil, _ => rfl
  | _, _, .cons hv t, h => by
    rename_i v v' a b
    have h' : ground v = true ∧ ground.groundL a = true := by simpa [ground.groundL] using h
    rw [VRel.eq_of_ground hv h'.1, VsRel.eq_of_ground t h'.2]
 end

/-! ### what a related value looks like -/
theorem VRel.inv_bool {L : LMap} {b : Bool} {v : Value} (h : VRel L (.bool b) v) : v = .bool b := h.eq_of_ground rfl
theorem VRel.inv_int {L : LMap} {k : IntKind} {n : Int} {v : Value} (h : VRel L (.int k n) v) : v = .int k n := h.eq_of_ground rfl
theorem VRel.inv_str {L : LMap} {s : ByteArray} {v : Value} (h : VRel L (.string s) v) : v = .string s := h.eq_of_ground rfl
theorem VRel.inv_ptr {L : LMap} {id off : Nat} {sp : Option Nat} {v : Value} (h : VRel L (.pointer (some ⟨id, off, sp⟩)) v) : sp = none ∧ ∃ l, L id = some l ∧ v = .pointer (some ⟨l.block, l.base + off, none⟩) := by
  cases h with | ptr h => exact ⟨rfl, _, h, rfl⟩
theorem VRel.inv_agg {L : LMap} {a : List Value} {v : Value} (h : VRel L (.agg ⟨a⟩) v) : ∃ b, v = .agg ⟨b⟩ ∧ VsRel L a b := by
  cases h with | agg h => exact ⟨_, rfl, h⟩
theorem VRel.inv_slice {L : LMap} {a : Option Addr} {n m : Nat} {v : Value} (h : VRel L (.slice a n m) v) :
    (a = none ∧ n = 0 ∧ m = 0 ∧ v = .slice none 0 0) ∨ (∃ id off q, a = some ⟨id, off, some q⟩ ∧ n = 0 ∧ m = 0 ∧ v = .slice none 0 0) ∨ ∃ id off q l o' c, a = some ⟨id, off, some q⟩ ∧ L id = some l ∧ v = .slice (some ⟨l.block, o', none⟩) n c ∧ n ≤ m ∧ m ≤ c ∧ (q % 2 = 1 → c = m) ∧ (o' = l.base + off ∨ c = 0) ∧ (l.rw = true → o' + c * (q / 2) ≤ l.size) := by
  cases h with
  | sliceNil => exact .inl ⟨rfl, rfl, rfl, rfl⟩
  | sliceE hq => exact .inr (.inl ⟨_, _, _, rfl, rfl, rfl, rfl⟩)
  | slice h hn hm hx ho hb => exact .inr (.inr ⟨_, _, _, _, _, _, rfl, h, rfl, hn, hm, hx, ho, hb⟩)
/-- A slice whose capacity is known for certain is not nil. -/
theorem VRel.nil_even {L : LMap} {id off q n m : Nat} (h : VRel L (.slice (some ⟨id, off, some q⟩) n m) (.slice none 0 0)) : q % 2 = 0 := by
  cases h
  assumption
theorem VRel.inv_map {L : LMap} {r : Option Nat} {v : Value} (h : VRel L (.map r) v) : (r = none ∧ v = .map none) ∨ ∃ id l, r = some id ∧ L id = some l ∧ v = .map (some l.block) := by
  cases h with
  | mapNil => exact .inl ⟨rfl, rfl⟩
  | map h => exact .inr ⟨_, _, rfl, h, rfl⟩

/-! ### environments: what is known of a frame's temporaries -/
abbrev Env := List (Nat × Value)

def lk : Env → Nat → Value
  | [], _ => anyV
  | (s, v) :: r, t => bif Nat.beq s t then v else lk r t

def TRel (L : LMap) (nt : Nat) (e : Env) (tm : Array Value) : Prop := tm.size = nt ∧ ∀ t, t < nt → VRel L (lk e t) (tm.getD t undef)
theorem TRel.mono {L L' : LMap} (hL : L.le L') {nt : Nat} {e : Env} {tm : Array Value} (h : TRel L nt e tm) : TRel L' nt e tm := ⟨h.1, fun t ht => (h.2 t ht).mono hL⟩

/-! ### ideal heaps -/
inductive IObj where
  | cells (cs : List Value) (rw : Bool)
  | dead
  /-- An id that nothing has. -/
  | free
  | map (es : List MapEntry) (clock : Nat)
  | loop (st : LoopState) (pend : Option Code) (fn : FuncId) (tm : List (Nat × Value)) (nt : Nat) (params : Array Tmp) (assign body : Code)
  | mapIter (m : Option Nat) (since : Nat) (seen : Array Nat) (stepped : Nat)

abbrev IHeap := List IObj

def EsRel (L : LMap) : List MapEntry → List MapEntry → Prop
  | [], [] => True
  | e :: a, e' :: b => e'.key = e.key ∧ ground e.key = true ∧ e'.born = e.born ∧ VRel L e.val e'.val ∧ EsRel L a b
  | _, _ => False

theorem EsRel.mono {L L' : LMap} (hL : L.le L') : ∀ {a b : List MapEntry}, EsRel L a b → EsRel L' a b
  | [], [], h => h
  | _ :: _, _ :: _, ⟨h1, h2, h3, h4, h5⟩ => ⟨h1, h2, h3, h4.mono hL, h5.mono hL⟩
  | [], _ :: _, h => h.elim
  | _ :: _, [], h => h.elim

/-- What the machine holds for an ideal block. -/
def ORel (L : LMap) (w0 w : World) (l : Loc) : IObj → Prop
  | .cells cs true => l.rw = true ∧ w0.heap.size ≤ l.block ∧ ∃ (arr : Array Value) (T : TypeId) (vs : List Value), w.heap[l.block]? = some (.cells arr T (0, 0)) ∧ arr.size = l.size ∧ l.base + cs.length ≤ l.size ∧ VsRel L cs vs ∧ ∀ (i : Nat) (v : Value), vs[i]? = some v → arr[l.base + i]? = some v
  | .cells cs false => l.rw = false ∧ l.block < w0.heap.size ∧ ∃ vs : List Value, VsRel L cs vs ∧ ∀ (i : Nat) (v : Value), vs[i]? = some v → w0.cell? ⟨l.block, l.base + i, none⟩ = some v
  | .dead => True
  | .free => False
  | .map es clock => w0.heap.size ≤ l.block ∧ ∃ es' : Array MapEntry, w.heap[l.block]? = some (.map es' clock) ∧ EsRel L es es'.toList
  | .loop st pend fn tm nt params assign body => w0.heap.size ≤ l.block ∧ ∃ (tm' : Array Value) (df : Nat) (fn' : FuncId), TRel L nt tm tm' ∧ w.heap[l.block]? = some (.loop { state := st, pending := pend, fn := fn', tmps := tm', params := params, assign := assign, body := body, defers := df })
  | .mapIter m since seen stepped => w0.heap.size ≤ l.block ∧ l.base = 0 ∧ ∃ m', w.heap[l.block]? = some (.mapIter m' since seen stepped) ∧ (match m with | none => m' = none | some id => ∃ lm, L id = some lm ∧ m' = some lm.block)

theorem ORel.mono {L L' : LMap} (hL : L.le L') {w0 w : World} {l : Loc} {o : IObj} (h : ORel L w0 w l o) : ORel L' w0 w l o := by
  match o, h with
  | .cells cs true, ⟨h0, h1, arr, T, vs, h2, h3, h3', h4, h5⟩ => exact ⟨h0, h1, arr, T, vs, h2, h3, h3', h4.mono hL, h5⟩
  | .cells cs false, ⟨h0, h1, vs, h2, h3⟩ => exact ⟨h0, h1, vs, h2.mono hL, h3⟩
  | .dead, _ => trivial
  | .free, h => exact h.elim
  | .map es clock, ⟨h1, es', h2, h3⟩ => exact ⟨h1, es', h2, h3.mono hL⟩
  | .loop .., ⟨h1, tm', df, fn', h2, h3⟩ => exact ⟨h1, tm', df, fn', h2.mono hL, h3⟩
  | .mapIter none .., ⟨h1, h2, m', h3, h4⟩ => exact ⟨h1, h2, m', h3, h4⟩
  | .mapIter (some id) .., ⟨h1, h2, m', h3, lm, h4, h5⟩ => exact ⟨h1, h2, m', h3, lm, hL _ _ h4, h5⟩

/-- A block that is alive and the call's own. -/
def IObj.own : IObj → Bool
  | .cells _ rw => rw
  | .dead => false
  | .free => false
  | _ => true

structure Emb where
  w0 : World
  loc : LMap
  /-- Ideal blocks whose places are kept back. -/
  held : Nat → Prop

def Emb.le (β β' : Emb) : Prop := (β'.w0 = β.w0 ∧ β'.held = β.held) ∧ β.loc.le β'.loc
theorem Emb.le.refl (β : Emb) : β.le β := ⟨⟨rfl, rfl⟩, LMap.le.refl _⟩
theorem Emb.le.trans {a b c : Emb} (h : a.le b) (h' : b.le c) : a.le c := ⟨⟨h'.1.1.trans h.1.1, h'.1.2.trans h.1.2⟩, h.2.trans h'.2⟩

/-- The world w carries the ideal heap H. (Ideal blocks that have no place yet are not asked for.) -/
structure Sim (β : Emb) (H : IHeap) (w : World) : Prop where
  below : Below β.w0.heap.size β.w0 w
  dom : ∀ id l, β.loc id = some l → id < H.length
  held : ∀ id, β.held id → id < H.length ∧ β.loc id = none ∧ H[id]? ≠ some .free
  blk : ∀ id l, β.loc id = some l → l.block < w.heap.size
  obj : ∀ id l o, β.loc id = some l → H[id]? = some o → ORel β.loc β.w0 w l o
  inj : ∀ i j l l' o o', β.loc i = some l → β.loc j = some l' → H[i]? = some o → H[j]? = some o' → o.own = true → o'.own = true → l.block = l'.block → i = j

/-- An own block's machine block. -/
theorem ORel.block_lt {L : LMap} {w0 w : World} {l : Loc} {o : IObj} (h : ORel L w0 w l o) (ho : o.own = true) : l.block < w.heap.size ∧ w0.heap.size ≤ l.block := by
  have key : ∀ {x : Obj}, w.heap[l.block]? = some x → l.block < w.heap.size := fun h => (Array.getElem?_eq_some_iff.1 h).1
  match o, h with
  | .cells cs true, ⟨h0, h1, arr, T, vs, h2, _⟩ => exact ⟨key h2, h1⟩
  | .map es clock, ⟨h1, es', h2, _⟩ => exact ⟨key h2, h1⟩
  | .loop .., ⟨h1, tm', df, fn', _, h4⟩ => exact ⟨key h4, h1⟩
  | .mapIter .., ⟨h1, _, m', h3, _⟩ => exact ⟨key h3, h1⟩

/-- An object reads the same in a world that keeps its machine block (and the old memory is never looked up in the new world). -/
theorem ORel.keep {L : LMap} {w0 w w' : World} {l : Loc} {o : IObj} (h : ORel L w0 w l o) (hk : o.own = true → w'.heap[l.block]? = w.heap[l.block]?) : ORel L w0 w' l o := by
  match o, h with
  | .cells cs true, ⟨h0, h1, arr, T, vs, h2, h3⟩ => exact ⟨h0, h1, arr, T, vs, (hk rfl).trans h2, h3⟩
  | .cells cs false, h => exact h
  | .dead, _ => trivial
  | .free, h => exact h.elim
  | .map es clock, ⟨h1, es', h2, h3⟩ => exact ⟨h1, es', (hk rfl).trans h2, h3⟩
  | .loop .., ⟨h1, tm', df, fn', h2, h3⟩ => exact ⟨h1, tm', df, fn', h2, (hk rfl).trans h3⟩
  | .mapIter .., ⟨h1, h2, m', h3, h4⟩ => exact ⟨h1, h2, m', (hk rfl).trans h3, h4⟩

end Ide

/- The ideal meaning of the operations and of code: predicates over environments and ideal heaps. -/
set_option linter.unusedVariables false
set_option linter.unusedSimpArgs false
namespace Ide
open Go Go.RowKit

def has : Env → Nat → Bool
  | [], _ => false
  | (s, _) :: r, t => bif Nat.beq s t then true else has r t

def put (e : Env) (d : Option Nat) (v : Value) : Env :=
  match d with
  | none => e
  | some t => (t, v) :: e

/-- What is left of an environment, in the order of the list. -/
def keep : List Nat → Env → Env
  | [], _ => []
  | t :: r, e => bif has e t then (t, lk e t) :: keep r e else keep r e

def iev (e : Env) : Operand → Value
  | .tmp t => lk e t
  | .const v => v
  | .global g => .pointer (some ⟨g, 0, none⟩)
  | .func f => .func (.func f) #[] #[]

/-! ### memory -/
def cellAt (H : IHeap) (i o : Nat) : Option Value :=
  match H[i]? with
  | some (.cells cs _) => cs[o]?
  | _ => none

def cellsAt (H : IHeap) (i o n : Nat) : Option (List Value) :=
  match H[i]? with
  | some (.cells cs _) => if o + n ≤ cs.length then some ((cs.drop o).take n) else none
  | _ => none

def splice (cs : List Value) (o : Nat) (vs : List Value) : List Value := cs.take o ++ vs ++ cs.drop (o + vs.length)

/-- Cells are written. -/
def stCells (H : IHeap) (i o : Nat) (vs : List Value) (K : IHeap → Prop) : Prop :=
  ∃ cs, H[i]? = some (.cells cs true) ∧ o + vs.length ≤ cs.length ∧ K (H.set i (.cells (splice cs o vs) true))

def ptrTo (i o : Nat) : Value := .pointer (some ⟨i, o, none⟩)
/-- Where a new object is numbered. -/
class Pol where
  pos : IHeap → Nat
  ok : ∀ H : IHeap, pos H = H.length ∨ H[pos H]? = some .free
  kill : ∀ (H : IHeap) (i : Nat) (cs : List Value), H[i]? = some (.cells cs true) → pos (H.set i .dead) = pos H

def putL : Nat → IObj → IHeap → IHeap
  | _, o, [] => [o]
  | 0, o, _ :: r => o :: r
  | k + 1, o, x :: r => x :: putL k o r

variable [Pol]

def newO (H : IHeap) (o : IObj) : IHeap := putL (Pol.pos H) o H

theorem putL_self : ∀ (k : Nat) (o : IObj) (H : IHeap), k ≤ H.length → (putL k o H)[k]? = some o
  | 0, o, [], _ => rfl
  | _ + 1, o, [], h => by simp at h
  | 0, o, _ :: r, _ => rfl
  | k + 1, o, x :: r, h => by simpa [putL] using putL_self k o r (by simpa using h)
theorem putL_other : ∀ (k : Nat) (o : IObj) (H : IHeap), k ≤ H.length → ∀ j, j ≠ k → (putL k o H)[j]? = H[j]?
  | 0, o, [], _, j, hj => by cases j with | zero => exact absurd rfl hj | succ j => rfl
  | _ + 1, o, [], h, _, _ => by simp at h
  | 0, o, _ :: r, _, j, hj => by cases j with | zero => exact absurd rfl hj | succ j => rfl
  | k + 1, o, x :: r, h, j, hj => by
    cases j with
    | zero => rfl
    | succ j => simpa [putL] using putL_other k o r (by simpa using h) j (by omega)
theorem putL_len : ∀ (k : Nat) (o : IObj) (H : IHeap), k ≤ H.length → H.length ≤ (putL k o H).length ∧ k < (putL k o H).length
  | 0, o, [], _ => by simp [putL]
  | _ + 1, o, [], h => by simp at h
  | 0, o, _ :: r, _ => by simp [putL]
  | k + 1, o, x :: r, h => by have := putL_len k o r (by simpa using h); simp [putL]; omega
theorem putL_end : ∀ (o : IObj) (H : IHeap), putL H.length o H = H ++ [o]
  | o, [] => rfl
  | o, x :: r => by simp [putL, putL_end o r]

theorem pos_le (H : IHeap) : Pol.pos H ≤ H.length := by
  rcases Pol.ok H with h | h
  · omega
  · have := (List.getElem?_eq_some_iff.1 h).1; omega
theorem newO_self (H : IHeap) (o : IObj) : (newO H o)[Pol.pos H]? = some o := putL_self _ _ _ (pos_le H)
theorem newO_other (H : IHeap) (o : IObj) {j : Nat} (hj : j ≠ Pol.pos H) : (newO H o)[j]? = H[j]? := putL_other _ _ _ (pos_le H) j hj
theorem newO_len (H : IHeap) (o : IObj) : H.length ≤ (newO H o).length ∧ Pol.pos H < (newO H o).length := putL_len _ _ _ (pos_le H)
theorem newO_get {H : IHeap} {j : Nat} {x : IObj} (o : IObj) (h : H[j]? = some x) (hx : x ≠ .free) : (newO H o)[j]? = some x := by
  rw [newO_other, h]
  rintro rfl
  rcases Pol.ok H with h1 | h1
  · rw [h1] at h; have := (List.getElem?_eq_some_iff.1 h).1; omega
  · rw [h1] at h; cases h; exact hx rfl
theorem pos_ne {H : IHeap} {j : Nat} {x : IObj} (h : H[j]? = some x) (hx : x ≠ .free) : j ≠ Pol.pos H := by
  rintro rfl
  rcases Pol.ok H with h1 | h1
  · rw [h1] at h; have := (List.getElem?_eq_some_iff.1 h).1; omega
  · rw [h1] at h; cases h; exact hx rfl

def newPtr (H : IHeap) : Value := .pointer (some ⟨Pol.pos H, 0, none⟩)

/-! ### small cases -/
def bcase (b : Bool) (X Y : Prop) : Prop :=
  match b with
  | true => X
  | false => Y

/-- A pointer that is not nil. -/
def pcase (a : Option Addr) (K : Nat → Nat → Prop) : Prop :=
  match a with
  | some ⟨i, o, none⟩ => K i o
  | _ => False

def ptrAt (v : Value) (K : Nat → Nat → Prop) : Prop :=
  match v with
  | .pointer a => pcase a K
  | _ => False

/-- The place of a slice that is not nil. -/
def acase (a : Option Addr) (K : Nat → Nat → Nat → Prop) : Prop :=
  match a with
  | some ⟨i, o, some q⟩ => K i o q
  | _ => False

/-- The kinds of values that one cell may have. -/
def ldI (H : IHeap) (i o : Nat) (k : IntKind) (K : Int → Prop) : Prop := ∃ n, cellAt H i o = some (.int k n) ∧ K n
def ldB (H : IHeap) (i o : Nat) (K : Bool → Prop) : Prop := ∃ b, cellAt H i o = some (.bool b) ∧ K b
def ldS (H : IHeap) (i o : Nat) (K : ByteArray → Prop) : Prop := ∃ s, cellAt H i o = some (.string s) ∧ K s
def ldP (H : IHeap) (i o : Nat) (K : Option Addr → Prop) : Prop := ∃ a, cellAt H i o = some (.pointer a) ∧ K a
def ldL (H : IHeap) (i o : Nat) (K : Option Addr → Nat → Nat → Prop) : Prop := ∃ a n s, cellAt H i o = some (.slice a n s) ∧ K a n s
def ldM (H : IHeap) (i o : Nat) (K : Option Nat → Prop) : Prop := ∃ r, cellAt H i o = some (.map r) ∧ K r
def noAgg : Value → Bool
  | .agg _ => false
  | _ => true
def ldV (H : IHeap) (i o : Nat) (K : Value → Prop) : Prop := ∃ v, cellAt H i o = some v ∧ noAgg v = true ∧ K v
def ldA (H : IHeap) (i o n : Nat) (K : List Value → Prop) : Prop := ∃ cs, cellsAt H i o n = some cs ∧ K cs

def ssz (P : Program) (t : TypeId) : Nat := ((P.info? t).map (·.size)).getD 0
def sby (P : Program) (t : TypeId) : Nat := ((P.info? t).map (·.bytes)).getD 0

def load (P : Program) (t : TypeId) (H : IHeap) (i o : Nat) (K : Value → Prop) : Prop :=
  match P.underlying t with
  | some (.int k) => ldI H i o k fun n => K (.int k n)
  | some .bool => ldB H i o fun b => K (.bool b)
  | some .string => ldS H i o fun s => K (.string s)
  | some (.pointer _) => ldP H i o fun a => K (.pointer a)
  | some (.slice _) => ldL H i o fun a n s => K (.slice a n s)
  | some (.map _ _) => ldM H i o fun r => K (.map r)
  | some (.struct _) => ldA H i o (ssz P t) fun cs => K (.agg ⟨cs⟩)
  | some (.array _ _) => ldA H i o (ssz P t) fun cs => K (.agg ⟨cs⟩)
  | some _ => ldV H i o K
  | none => False

/-- What a value of a type looks like. -/
def kbeq : IntKind → IntKind → Bool
  | .i8, .i8 | .i16, .i16 | .i32, .i32 | .i64, .i64 | .u8, .u8 | .u16, .u16 | .u32, .u32 | .u64, .u64 => true
  | _, _ => false
def isI (v : Value) (k : IntKind) (K : Int → Prop) : Prop :=
  match v with
  | .int j n => bif kbeq j k then K n else False
  | _ => False
def isB (v : Value) (K : Bool → Prop) : Prop :=
  match v with
  | .bool b => K b
  | _ => False
def isS (v : Value) (K : ByteArray → Prop) : Prop :=
  match v with
  | .string s => K s
  | _ => False
def isP (v : Value) (K : Option Addr → Prop) : Prop :=
  match v with
  | .pointer a => K a
  | _ => False
def isL (v : Value) (K : Option Addr → Nat → Nat → Prop) : Prop :=
  match v with
  | .slice a n m => K a n m
  | _ => False
def isM (v : Value) (K : Option Nat → Prop) : Prop :=
  match v with
  | .map r => K r
  | _ => False
def isA (v : Value) (K : List Value → Prop) : Prop :=
  match v with
  | .agg ⟨cs⟩ => K cs
  | _ => False

def shaped (d : Option TypeDesc) (v : Value) (K : Value → Prop) : Prop :=
  match d with
  | some (.int k) => isI v k fun n => K (.int k n)
  | some .bool => isB v fun b => K (.bool b)
  | some .string => isS v fun s => K (.string s)
  | some (.pointer _) => isP v fun a => K (.pointer a)
  | some (.slice _) => isL v fun a n s => K (.slice a n s)
  | some (.map _ _) => isM v fun r => K (.map r)
  | some (.struct _) => isA v fun cs => K (.agg ⟨cs⟩)
  | some (.array _ _) => isA v fun cs => K (.agg ⟨cs⟩)
  | _ => K v

def isT (v : Value) (K : List Value → Prop) : Prop :=
  match v with
  | .tuple ⟨vs⟩ => K vs
  | _ => False

/-- The first of a list of values. -/
def hd (vs : List Value) (K : Value → List Value → Prop) : Prop :=
  match vs with
  | v :: r => K v r
  | [] => False
def tl (vs : List Value) (K : Prop) : Prop :=
  match vs with
  | _ :: _ => False
  | [] => K

/-- The parts of a tuple, each of its type. -/
def parts (P : Program) : List TypeId → List Value → List Value → (List Value → Prop) → Prop
  | [], vs, acc, K => tl vs (K acc)
  | t :: ts, vs, acc, K => hd vs fun v rest => shaped (P.underlying t) v fun v => parts P ts rest (acc ++ [v]) K

def result (P : Program) (t : TypeId) (v : Value) (K : Value → Prop) : Prop :=
  match P.underlying t with
  | some (.tuple ⟨ts⟩) => isT v fun vs => parts P ts vs [] fun ws => K (.tuple ⟨ws⟩)
  | d => shaped d v K

/-! ### operations that touch no memory -/
def fieldOff (P : Program) (t : TypeId) (f : Nat) : Option (Nat × TypeId) :=
  match P.underlying t with
  | some (.struct fs) =>
    match fs[f]? with
    | some x => bif Nat.beq (ssz P x.type) 0 then none else some (x.offset, x.type)
    | none => none
  | _ => none

def fieldAddr (P : Program) (t : TypeId) (v : Value) (f : Nat) (K : Value → Prop) : Prop :=
  match v, fieldOff P t f with
  | .pointer a, some (off, _) => pcase a fun i o => K (.pointer (some ⟨i, o + off, none⟩))
  | _, _ => False

def cellOf (cs : List Value) (i : Nat) (K : Value → Prop) : Prop :=
  match cs[i]? with
  | some v => K v
  | none => False
def cellsOf (cs : List Value) (i n : Nat) (K : List Value → Prop) : Prop := i + n ≤ cs.length ∧ K ((cs.drop i).take n)

/-- A part of an aggregate. -/
def part (P : Program) (t : TypeId) (cs : List Value) (off : Nat) (K : Value → Prop) : Prop :=
  match P.underlying t with
  | some (.struct _) => cellsOf cs off (ssz P t) fun vs => K (.agg ⟨vs⟩)
  | some (.array _ _) => cellsOf cs off (ssz P t) fun vs => K (.agg ⟨vs⟩)
  | some d => cellOf cs off fun v => shaped (some d) v K
  | none => False

def field (P : Program) (t : TypeId) (v : Value) (f : Nat) (K : Value → Prop) : Prop :=
  match v, fieldOff P t f with
  | .agg ⟨cs⟩, some (off, ft) => part P ft cs off K
  | _, _ => False

/-- The address of an element of a slice. -/
def ixS (a : Option Addr) (n : Nat) (i : Int) (sz : Nat) (K : Nat → Nat → Prop) : Prop :=
  0 ≤ i ∧ i < n ∧ acase a fun b o _ => K b (o + i.toNat * sz)

def ixA (a : Option Addr) (n : Nat) (i : Int) (sz : Nat) (K : Nat → Nat → Prop) : Prop :=
  0 ≤ i ∧ i < n ∧ pcase a fun b o => K b (o + i.toNat * sz)

def indexAddr (P : Program) (t : TypeId) (v i : Value) (K : Value → Prop) : Prop :=
  match P.underlying t, v, i with
  | some (.slice e), .slice a n m, .int _ i => bif Nat.ble 1 (ssz P e) then ixS a n i (ssz P e) fun b o => K (ptrTo b o) else False
  | some (.array n e), .pointer a, .int _ i => bif Nat.ble 1 (ssz P e) then ixA a n i (ssz P e) fun b o => K (ptrTo b o) else False
  | _, _, _ => False

def byteAt (s : ByteArray) (i : Int) (K : Int → Prop) : Prop := 0 ≤ i ∧ ∃ b, s[i.toNat]? = some b ∧ K b.toNat

def index (P : Program) (t : TypeId) (v i : Value) (K : Value → Prop) : Prop :=
  match P.underlying t, v, i with
  | some .string, .string s, .int _ i => byteAt s i fun b => K (.int .u8 b)
  | some (.array n e), .agg ⟨cs⟩, .int _ i => bif Nat.ble 1 (ssz P e) then 0 ≤ i ∧ i < n ∧ part P e cs (i.toNat * ssz P e) K else False
  | _, _, _ => False

def intBin (op : BinOp) (k : IntKind) (a b : Int) (K : Value → Prop) : Prop :=
  match op with
  | .add => K (.int k (k.wrap (a + b)))
  | .sub => K (.int k (k.wrap (a - b)))
  | .mul => K (.int k (k.wrap (a * b)))
  | .quo => b ≠ 0 ∧ K (.int k (k.wrap (a.tdiv b)))
  | .rem => b ≠ 0 ∧ K (.int k (a.tmod b))
  | .and => K (.int k (k.wrap (BitVec.ofInt k.bits a &&& BitVec.ofInt k.bits b).toNat))
  | .or => K (.int k (k.wrap (BitVec.ofInt k.bits a ||| BitVec.ofInt k.bits b).toNat))
  | .xor => K (.int k (k.wrap (BitVec.ofInt k.bits a ^^^ BitVec.ofInt k.bits b).toNat))
  | .eql => K (.bool (a == b))
  | .neq => K (.bool (a != b))
  | .lss => K (.bool (a < b))
  | .leq => K (.bool (a ≤ b))
  | .gtr => K (.bool (a > b))
  | .geq => K (.bool (a ≥ b))
  | _ => False

def strBin (op : BinOp) (x y : ByteArray) (K : Value → Prop) : Prop :=
  match op with
  | .eql => K (.bool (x.toList == y.toList))
  | .neq => K (.bool (!(x.toList == y.toList)))
  | _ => False

/-- The cells of fields, by the cells of a type. -/
def flatFs (P : Program) (one : TypeId → Option (List TypeId)) : List Field → Nat → Option (List TypeId)
  | [], _ => some []
  | f :: fs, off =>
    match one f.type, flatFs P one fs (off + ssz P f.type) with
    | some l, some r => bif Nat.beq f.offset off && Nat.beq (ssz P f.type) l.length && !(f.name == "_") then some (l ++ r) else none
    | _, _ => none

/-- The cells of a type all of whose cells are numbers, bools and strings: their types, in order; none: it is not such a type. -/
def flat (P : Program) : Nat → TypeId → Option (List TypeId)
  | 0, _ => none
  | d + 1, t =>
    match P.underlying t with
    | some (.int _) => some [t]
    | some .bool => some [t]
    | some .string => some [t]
    | some (.struct ⟨fs⟩) => bif P.stoodInHeld t then none else flatFs P (flat P d) fs 0
    | some (.array n e) =>
      match flat P d e with
      | some l => bif Nat.beq (ssz P e) l.length && Nat.beq (P.cellsOf e) l.length then some ((List.replicate n l).flatten) else none
      | none => none
    | _ => none

/-- Equality of two cells of one of these kinds. -/
def eq1 (d : Option TypeDesc) (x y : Value) : Option Bool :=
  match d, x, y with
  | some (.int _), .int k a, .int j b => bif kbeq k j then some (a == b) else none
  | some .bool, .bool a, .bool b => some (a == b)
  | some .string, .string a, .string b => some (a.toList == b.toList)
  | _, _, _ => none

def eqB (P : Program) : List TypeId → List Value → List Value → Option Bool
  | [], [], [] => some true
  | t :: ts, x :: xs, y :: ys =>
    match eq1 (P.underlying t) x y, eqB P ts xs ys with
    | some b, some c => some (b && c)
    | _, _ => none
  | _, _, _ => none

def isAggT (P : Program) (t : TypeId) : Bool :=
  match P.underlying t with
  | some (.struct _) => true
  | some (.array ..) => true
  | _ => false

/-- Equality of two aggregates. -/
def eqAgg (P : Program) (t : TypeId) (xs ys : List Value) (K : Bool → Prop) : Prop :=
  match flat P 10 t with
  | some l => bif P.eqGuardType P.depth t || !isAggT P t then False else (match eqB P l xs ys with | some b => K b | none => False)
  | none => False

/-- Is a slice nil? Of an empty one that is not seen to be nil this is not known. -/
def nilB (a : Option Addr) (m : Nat) (K : Bool → Prop) : Prop :=
  match a with
  | none => K true
  | some a => bif Nat.ble 1 m || Nat.beq (a.spot.getD 0 % 2) 1 then K false else False

def nilEq (d : Option TypeDesc) (x y : Value) (K : Bool → Prop) : Prop :=
  match d, x, y with
  | some (.slice _), .slice none _ _, .slice b _ m => nilB b m K
  | some (.slice _), .slice a _ m, .slice none _ _ => nilB a m K
  | some (.pointer _), .pointer none, .pointer b => K b.isNone
  | some (.pointer _), .pointer a, .pointer none => K a.isNone
  | some (.map _ _), .map none, .map b => K b.isNone
  | some (.map _ _), .map a, .map none => K a.isNone
  | _, _, _ => False

def binOp (P : Program) (op : BinOp) (t : TypeId) (x y : Value) (K : Value → Prop) : Prop :=
  match x, y with
  | .int k a, .int k' b =>
    match op with
    | .shl => 0 ≤ b ∧ K (.int k (k.wrap (a * 2 ^ (min b.toNat k.bits))))
    | .shr => 0 ≤ b ∧ K (.int k (a.fdiv (2 ^ (min b.toNat k.bits))))
    | _ => k = k' ∧ intBin op k a b K
  | .string a, .string b => strBin op a b K
  | .bool a, .bool b =>
    match op with
    | .eql => match P.underlying t with | some .bool => K (.bool (a == b)) | _ => False
    | .neq => match P.underlying t with | some .bool => K (.bool (!(a == b))) | _ => False
    | _ => False
  | .agg ⟨xs⟩, .agg ⟨ys⟩ =>
    match op with
    | .eql => eqAgg P t xs ys fun b => K (.bool b)
    | .neq => eqAgg P t xs ys fun b => K (.bool (!b))
    | _ => False
  | x, y =>
    match op with
    | .eql => nilEq (P.underlying t) x y fun b => K (.bool b)
    | .neq => nilEq (P.underlying t) x y fun b => K (.bool (!b))
    | _ => False

def unOp (op : UnOp) (x : Value) (K : Value → Prop) : Prop :=
  match op, x with
  | .not, .bool b => K (.bool (!b))
  | .neg, .int k n => K (.int k (k.wrap (0 - n)))
  | _, _ => False

def convert (P : Program) (s d : TypeId) (x : Value) (K : Value → Prop) : Prop :=
  match P.underlying s, P.underlying d, x with
  | some (.int _), some (.int k), .int _ n => K (.int k (k.wrap n))
  | some .string, some .string, .string s => K (.string s)
  | _, _, _ => False

/-- The mark of a slice whose capacity is known; of an empty one nothing is said. -/
def exq (sz k : Nat) : Nat := 2 * sz + bif Nat.beq k 0 then 0 else 1
theorem exq_half (sz k : Nat) : exq sz k / 2 = sz := by
  unfold exq
  cases Nat.beq k 0
  · show (2 * sz + 1) / 2 = sz
    omega
  · show (2 * sz + 0) / 2 = sz
    omega
/-- x[l:h:m] -/
def cut (a : Option Addr) (c sz : Nat) (l h : Int) (m : Option Int) (K : Option Addr → Nat → Nat → Prop) : Prop :=
  match a with
  | none => l = 0 ∧ h = 0 ∧ (match m with | some m => m = 0 | none => True) ∧ K none 0 0
  | some ⟨i, o, some q⟩ =>
    match m with
    | none => q / 2 = sz ∧ 0 ≤ l ∧ l ≤ h ∧ h ≤ c ∧ K (some ⟨i, o + l.toNat * sz, some q⟩) (h.toNat - l.toNat) (c - l.toNat)
    | some m => q / 2 = sz ∧ 0 ≤ l ∧ l ≤ h ∧ h ≤ m ∧ m ≤ c ∧ K (some ⟨i, o + l.toNat * sz, some (exq sz (m.toNat - l.toNat))⟩) (h.toNat - l.toNat) (m.toNat - l.toNat)
  | _ => False

def bound (v : Option Value) (d : Int) (K : Int → Prop) : Prop :=
  match v with
  | none => K d
  | some (.int _ i) => K i
  | _ => False

def bound? (v : Option Value) (K : Option Int → Prop) : Prop :=
  match v with
  | none => K none
  | some (.int _ i) => K (some i)
  | _ => False

/-- The cells of an array that lies in memory, as a slice. -/
def cutArr (H : IHeap) (a : Option Addr) (n sz : Nat) (l h : Int) (K : Nat → Nat → Nat → Nat → Prop) : Prop :=
  0 ≤ l ∧ l ≤ h ∧ h ≤ n ∧ pcase a fun i o => (∃ cs, H[i]? = some (.cells cs true) ∧ o + n * sz ≤ cs.length) ∧ K i (o + l.toNat * sz) (h.toNat - l.toNat) (n - l.toNat)

def slice (P : Program) (t : TypeId) (H : IHeap) (x : Value) (lo hi mx : Option Value) (K : Value → Prop) : Prop :=
  match P.underlying t, x with
  | some (.slice e), .slice a n c =>
    bif Nat.ble 1 (ssz P e) && (mx.isNone || hi.isSome) then bound lo 0 fun l => bound hi n fun h => bound? mx fun m => cut a c (ssz P e) l h m fun a' n' c' => K (.slice a' n' c') else False
  | some .string, .string s =>
    bound lo 0 fun l => bound hi s.size fun h => bound? mx fun m => m = none ∧ 0 ≤ l ∧ l ≤ h ∧ h ≤ s.size ∧ K (.string (s.extract l.toNat h.toNat))
  | some (.array n e), .pointer a =>
    bif Nat.ble 1 (ssz P e) then bound lo 0 fun l => bound hi n fun h => bound? mx fun m => m = none ∧ cutArr H a n (ssz P e) l h fun i o n' c => K (.slice (some ⟨i, o, some (2 * ssz P e + 1)⟩) n' c) else False
  | _, _ => False

/-! ### operations that make memory -/
def vcells : Value → Option (List Value)
  | .agg ⟨cs⟩ => some cs
  | .tuple _ => none
  | .chan _ => none
  | v => some [v]

/-- A value that one cell may hold. -/
def okCell : Value → Bool
  | .agg _ | .tuple _ | .chan _ => false
  | _ => true

def box (v : Value) (H : IHeap) (K : Value → IHeap → Prop) : Prop :=
  match v with
  | .agg ⟨cs⟩ => K (newPtr H) (newO H (.cells cs true))
  | .tuple _ => False
  | .chan _ => False
  | v => K (newPtr H) (newO H (.cells [v] true))

def zeroOf (P : Program) (t : TypeId) : Option (List Value) :=
  match (P.info? t).bind (·.zero) with
  | some v => bif ground v then vcells v else none
  | none => none

def alloc (P : Program) (t : TypeId) (H : IHeap) (K : Value → IHeap → Prop) : Prop :=
  match zeroOf P t with
  | some cs => K (newPtr H) (newO H (.cells cs true))
  | none => False

/-- Parts laid into cells. -/
def fillL (place : Nat → Option (Nat × Nat)) (cells : List Value) : List (Nat × Value) → (List Value → Prop) → Prop
  | [], K => K cells
  | (i, v) :: rest, K =>
    match place i, vcells v with
    | some (off, sz), some vs => (vs.length = sz ∧ off + vs.length ≤ cells.length) ∧ fillL place (splice cells off vs) rest K
    | _, _ => False

def fieldPlaces (P : Program) (fs : List Field) : List (Nat × Nat) := fs.map fun f => (f.offset, ssz P f.type)

def build (P : Program) (t : TypeId) (ps : List (Nat × Value)) (K : Value → Prop) : Prop :=
  match P.underlying t, zeroOf P t with
  | some (.struct ⟨fs⟩), some zs => bif fs.all (fun f => (P.info? f.type).isSome) then fillL (fun i => (fieldPlaces P fs)[i]?) zs ps fun cs => K (.agg ⟨cs⟩) else False
  | some (.array _ e), some zs => bif (P.info? e).isSome then fillL (fun i => some (i * ssz P e, ssz P e)) zs ps fun cs => K (.agg ⟨cs⟩) else False
  | _, _ => False

def repeatL : Nat → List Value → List Value
  | 0, _ => []
  | n + 1, zs => zs ++ repeatL n zs

def buildSlice (P : Program) (t : TypeId) (len : Nat) (ps : List (Nat × Value)) (H : IHeap) (K : Value → IHeap → Prop) : Prop :=
  match P.underlying t with
  | some (.slice e) =>
    match zeroOf P e with
    | some zs =>
      bif Nat.beq zs.length (ssz P e) && Nat.ble 1 (ssz P e) && Nat.ble (len * ssz P e) 16777216 then
        fillL (fun i => some (i * ssz P e, ssz P e)) (repeatL len zs) ps fun cs => K (.slice (some ⟨Pol.pos H, 0, some (2 * ssz P e + 1)⟩) len len) (newO H (.cells cs true))
      else False
    | none => False
  | _ => False

/-- make([]T, n) -/
def mkSlice (zs : List Value) (n : Int) (sz by_ : Nat) (H : IHeap) (K : Value → IHeap → Prop) : Prop :=
  0 ≤ n ∧ n * by_ ≤ 281474976710656 ∧ n ≤ 281474976710656 ∧ K (.slice (some ⟨Pol.pos H, 0, some (2 * sz + 1)⟩) n.toNat n.toNat) (newO H (.cells (repeatL n.toNat zs) true))

def makeSlice (P : Program) (t : TypeId) (l c : Value) (H : IHeap) (K : Value → IHeap → Prop) : Prop :=
  match P.underlying t, l, c with
  | some (.slice e), .int _ n, .int _ m =>
    match zeroOf P e with
    | some zs => bif Nat.beq zs.length (ssz P e) && Nat.ble 1 (ssz P e) then n = m ∧ mkSlice zs n (ssz P e) (sby P e) H K else False
    | none => False
  | _, _, _ => False

/-! ### append -/
/-- The cells that a slice holds. -/
def sliceCells (H : IHeap) (a : Option Addr) (n sz : Nat) (K : List Value → Prop) : Prop :=
  match a with
  | none => n = 0 ∧ K []
  | some ⟨i, o, some _⟩ => ∃ cs, cellsAt H i o (n * sz) = some cs ∧ K cs
  | _ => False

def newSlice (H : IHeap) (n sz : Nat) : Value := .slice (some ⟨Pol.pos H, 0, some (2 * sz)⟩) n n

/-- append(x, ..): in place where there is room for certain; a new row for certain; or neither is known: then the old row is not to be looked at any more. -/
def appended (H : IHeap) (a : Option Addr) (n c m sz : Nat) (old new : List Value) (K : Value → IHeap → Prop) : Prop :=
  bcase (Nat.beq m 0) (K (.slice a n c) H)
    (match a with
    | none => K (newSlice H (n + m) sz) (newO H (.cells (old ++ new) true))
    | some ⟨i, o, some q⟩ =>
      (q / 2 = sz ∧ new.all okCell = true) ∧
      (n + m ≤ c → stCells H i (o + n * sz) new fun H' => K (.slice (some ⟨i, o, some q⟩) (n + m) c) H') ∧
      (c < n + m → bcase (Nat.beq (q % 2) 1) (K (newSlice H (n + m) sz) (newO H (.cells (old ++ new) true)))
        ((∃ cs, H[i]? = some (.cells cs true)) ∧ K (newSlice H (n + m) sz) (newO (H.set i .dead) (.cells (old ++ new) true))))
    | _ => False)

def rowOk (P : Program) (e : TypeId) : Bool :=
  Nat.ble 1 (ssz P e) &&
  match zeroOf P e with
  | some zs => Nat.beq zs.length (ssz P e)
  | none => false

def append (P : Program) (t : TypeId) (x y : Value) (H : IHeap) (K : Value → IHeap → Prop) : Prop :=
  match P.underlying t, x, y with
  | some (.slice e), .slice a n c, .slice b m _ =>
    bif rowOk P e then
      ((n + m) * sby P e ≤ 70368744177664 ∧ n + m ≤ 70368744177664) ∧
      sliceCells H a n (ssz P e) fun old => sliceCells H b m (ssz P e) fun new =>
        appended H a n c m (ssz P e) old new K ∨ (a = none ∧ K (newSlice H (n + m) (ssz P e)) (newO H (.cells (old ++ new) true)))
    else False
  | _, _, _ => False

end Ide
