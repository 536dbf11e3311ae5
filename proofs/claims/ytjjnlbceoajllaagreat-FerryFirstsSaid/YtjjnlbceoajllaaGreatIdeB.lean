/- The ideal meaning of the operations and of code: predicates over environments and ideal heaps. -/
import Derived.Test.YtjjnlbceoajllaaGreatIdeA
set_option linter.unusedVariables false
set_option linter.unusedSimpArgs false
namespace Ide
open Go Go.RowKit

def has : Env → Nat → Bool
  | [], _ => false
  | (s, _) :: r, t => bif Nat.beq s t then true else has r t

def put (e : Env) (d : Option Nat) (v : Value) : Env :=
  match d with
  | none => e
  | some t => (t, v) :: e

/-- What is left of an environment, in the order of the list. -/
def keep : List Nat → Env → Env
  | [], _ => []
  | t :: r, e => bif has e t then (t, lk e t) :: keep r e else keep r e

def iev (e : Env) : Operand → Value
  | .tmp t => lk e t
  | .const v => v
  | .global g => .pointer (some ⟨g, 0, none⟩)
  | .func f => .func (.func f) #[] #[]

/-! ### memory -/
def cellAt (H : IHeap) (i o : Nat) : Option Value :=
  match H[i]? with
  | some (.cells cs _) => cs[o]?
  | _ => none

def cellsAt (H : IHeap) (i o n : Nat) : Option (List Value) :=
  match H[i]? with
  | some (.cells cs _) => if o + n ≤ cs.length then some ((cs.drop o).take n) else none
  | _ => none

def splice (cs : List Value) (o : Nat) (vs : List Value) : List Value := cs.take o ++ vs ++ cs.drop (o + vs.length)

/-- Cells are written. -/
def stCells (H : IHeap) (i o : Nat) (vs : List Value) (K : IHeap → Prop) : Prop :=
  ∃ cs, H[i]? = some (.cells cs true) ∧ o + vs.length ≤ cs.length ∧ K (H.set i (.cells (splice cs o vs) true))

def ptrTo (i o : Nat) : Value := .pointer (some ⟨i, o, none⟩)
def newPtr (H : IHeap) : Value := .pointer (some ⟨H.length, 0, none⟩)

/-! ### small cases -/
def bcase (b : Bool) (X Y : Prop) : Prop :=
  match b with
  | true => X
  | false => Y

/-- A pointer that is not nil. -/
def pcase (a : Option Addr) (K : Nat → Nat → Prop) : Prop :=
  match a with
  | some ⟨i, o, none⟩ => K i o
  | _ => False

def ptrAt (v : Value) (K : Nat → Nat → Prop) : Prop :=
  match v with
  | .pointer a => pcase a K
  | _ => False

/-- The place of a slice that is not nil. -/
def acase (a : Option Addr) (K : Nat → Nat → Nat → Prop) : Prop :=
  match a with
  | some ⟨i, o, some q⟩ => K i o q
  | _ => False

/-- The kinds of values that one cell may have. -/
def ldI (H : IHeap) (i o : Nat) (k : IntKind) (K : Int → Prop) : Prop := ∃ n, cellAt H i o = some (.int k n) ∧ K n
def ldB (H : IHeap) (i o : Nat) (K : Bool → Prop) : Prop := ∃ b, cellAt H i o = some (.bool b) ∧ K b
def ldS (H : IHeap) (i o : Nat) (K : ByteArray → Prop) : Prop := ∃ s, cellAt H i o = some (.string s) ∧ K s
def ldP (H : IHeap) (i o : Nat) (K : Option Addr → Prop) : Prop := ∃ a, cellAt H i o = some (.pointer a) ∧ K a
def ldL (H : IHeap) (i o : Nat) (K : Option Addr → Nat → Nat → Prop) : Prop := ∃ a n s, cellAt H i o = some (.slice a n s) ∧ K a n s
def ldM (H : IHeap) (i o : Nat) (K : Option Nat → Prop) : Prop := ∃ r, cellAt H i o = some (.map r) ∧ K r
def noAgg : Value → Bool
  | .agg _ => false
  | _ => true
def ldV (H : IHeap) (i o : Nat) (K : Value → Prop) : Prop := ∃ v, cellAt H i o = some v ∧ noAgg v = true ∧ K v
def ldA (H : IHeap) (i o n : Nat) (K : List Value → Prop) : Prop := ∃ cs, cellsAt H i o n = some cs ∧ K cs

def ssz (P : Program) (t : TypeId) : Nat := ((P.info? t).map (·.size)).getD 0
def sby (P : Program) (t : TypeId) : Nat := ((P.info? t).map (·.bytes)).getD 0

def load (P : Program) (t : TypeId) (H : IHeap) (i o : Nat) (K : Value → Prop) : Prop :=
  match P.underlying t with
  | some (.int k) => ldI H i o k fun n => K (.int k n)
  | some .bool => ldB H i o fun b => K (.bool b)
  | some .string => ldS H i o fun s => K (.string s)
  | some (.pointer _) => ldP H i o fun a => K (.pointer a)
  | some (.slice _) => ldL H i o fun a n s => K (.slice a n s)
  | some (.map _ _) => ldM H i o fun r => K (.map r)
  | some (.struct _) => ldA H i o (ssz P t) fun cs => K (.agg ⟨cs⟩)
  | some (.array _ _) => ldA H i o (ssz P t) fun cs => K (.agg ⟨cs⟩)
  | some _ => ldV H i o K
  | none => False

/-- What a value of a type looks like. -/
def kbeq : IntKind → IntKind → Bool
  | .i8, .i8 | .i16, .i16 | .i32, .i32 | .i64, .i64 | .u8, .u8 | .u16, .u16 | .u32, .u32 | .u64, .u64 => true
  | _, _ => false
def isI (v : Value) (k : IntKind) (K : Int → Prop) : Prop :=
  match v with
  | .int j n => bif kbeq j k then K n else False
  | _ => False
def isB (v : Value) (K : Bool → Prop) : Prop :=
  match v with
  | .bool b => K b
  | _ => False
def isS (v : Value) (K : ByteArray → Prop) : Prop :=
  match v with
  | .string s => K s
  | _ => False
def isP (v : Value) (K : Option Addr → Prop) : Prop :=
  match v with
  | .pointer a => K a
  | _ => False
def isL (v : Value) (K : Option Addr → Nat → Nat → Prop) : Prop :=
  match v with
  | .slice a n m => K a n m
  | _ => False
def isM (v : Value) (K : Option Nat → Prop) : Prop :=
  match v with
  | .map r => K r
  | _ => False
def isA (v : Value) (K : List Value → Prop) : Prop :=
  match v with
  | .agg ⟨cs⟩ => K cs
  | _ => False

def shaped (d : Option TypeDesc) (v : Value) (K : Value → Prop) : Prop :=
  match d with
  | some (.int k) => isI v k fun n => K (.int k n)
  | some .bool => isB v fun b => K (.bool b)
  | some .string => isS v fun s => K (.string s)
  | some (.pointer _) => isP v fun a => K (.pointer a)
  | some (.slice _) => isL v fun a n s => K (.slice a n s)
  | some (.map _ _) => isM v fun r => K (.map r)
  | some (.struct _) => isA v fun cs => K (.agg ⟨cs⟩)
  | some (.array _ _) => isA v fun cs => K (.agg ⟨cs⟩)
  | _ => K v

def isT (v : Value) (K : List Value → Prop) : Prop :=
  match v with
  | .tuple ⟨vs⟩ => K vs
  | _ => False

/-- The first of a list of values. -/
def hd (vs : List Value) (K : Value → List Value → Prop) : Prop :=
  match vs with
  | v :: r => K v r
  | [] => False
def tl (vs : List Value) (K : Prop) : Prop :=
  match vs with
  | _ :: _ => False
  | [] => K

/-- The parts of a tuple, each of its type. -/
def parts (P : Program) : List TypeId → List Value → List Value → (List Value → Prop) → Prop
  | [], vs, acc, K => tl vs (K acc)
  | t :: ts, vs, acc, K => hd vs fun v rest => shaped (P.underlying t) v fun v => parts P ts rest (acc ++ [v]) K

def result (P : Program) (t : TypeId) (v : Value) (K : Value → Prop) : Prop :=
  match P.underlying t with
  | some (.tuple ⟨ts⟩) => isT v fun vs => parts P ts vs [] fun ws => K (.tuple ⟨ws⟩)
  | d => shaped d v K

/-! ### operations that touch no memory -/
def fieldOff (P : Program) (t : TypeId) (f : Nat) : Option (Nat × TypeId) :=
  match P.underlying t with
  | some (.struct fs) =>
    match fs[f]? with
    | some x => bif Nat.beq (ssz P x.type) 0 then none else some (x.offset, x.type)
    | none => none
  | _ => none

def fieldAddr (P : Program) (t : TypeId) (v : Value) (f : Nat) (K : Value → Prop) : Prop :=
  match v, fieldOff P t f with
  | .pointer a, some (off, _) => pcase a fun i o => K (.pointer (some ⟨i, o + off, none⟩))
  | _, _ => False

def cellOf (cs : List Value) (i : Nat) (K : Value → Prop) : Prop :=
  match cs[i]? with
  | some v => K v
  | none => False
def cellsOf (cs : List Value) (i n : Nat) (K : List Value → Prop) : Prop := i + n ≤ cs.length ∧ K ((cs.drop i).take n)

/-- A part of an aggregate. -/
def part (P : Program) (t : TypeId) (cs : List Value) (off : Nat) (K : Value → Prop) : Prop :=
  match P.underlying t with
  | some (.struct _) => cellsOf cs off (ssz P t) fun vs => K (.agg ⟨vs⟩)
  | some (.array _ _) => cellsOf cs off (ssz P t) fun vs => K (.agg ⟨vs⟩)
  | some d => cellOf cs off fun v => shaped (some d) v K
  | none => False

def field (P : Program) (t : TypeId) (v : Value) (f : Nat) (K : Value → Prop) : Prop :=
  match v, fieldOff P t f with
  | .agg ⟨cs⟩, some (off, ft) => part P ft cs off K
  | _, _ => False

/-- The address of an element of a slice. -/
def ixS (a : Option Addr) (n : Nat) (i : Int) (sz : Nat) (K : Nat → Nat → Prop) : Prop :=
  0 ≤ i ∧ i < n ∧ acase a fun b o _ => K b (o + i.toNat * sz)

def ixA (a : Option Addr) (n : Nat) (i : Int) (sz : Nat) (K : Nat → Nat → Prop) : Prop :=
  0 ≤ i ∧ i < n ∧ pcase a fun b o => K b (o + i.toNat * sz)

def indexAddr (P : Program) (t : TypeId) (v i : Value) (K : Value → Prop) : Prop :=
  match P.underlying t, v, i with
  | some (.slice e), .slice a n m, .int _ i => bif Nat.ble 1 (ssz P e) then ixS a n i (ssz P e) fun b o => K (ptrTo b o) else False
  | some (.array n e), .pointer a, .int _ i => bif Nat.ble 1 (ssz P e) then ixA a n i (ssz P e) fun b o => K (ptrTo b o) else False
  | _, _, _ => False

def byteAt (s : ByteArray) (i : Int) (K : Int → Prop) : Prop := 0 ≤ i ∧ ∃ b, s[i.toNat]? = some b ∧ K b.toNat

def index (P : Program) (t : TypeId) (v i : Value) (K : Value → Prop) : Prop :=
  match P.underlying t, v, i with
  | some .string, .string s, .int _ i => byteAt s i fun b => K (.int .u8 b)
  | some (.array n e), .agg ⟨cs⟩, .int _ i => bif Nat.ble 1 (ssz P e) then 0 ≤ i ∧ i < n ∧ part P e cs (i.toNat * ssz P e) K else False
  | _, _, _ => False

def intBin (op : BinOp) (k : IntKind) (a b : Int) (K : Value → Prop) : Prop :=
  match op with
  | .add => K (.int k (k.wrap (a + b)))
  | .sub => K (.int k (k.wrap (a - b)))
  | .mul => K (.int k (k.wrap (a * b)))
  | .quo => b ≠ 0 ∧ K (.int k (k.wrap (a.tdiv b)))
  | .rem => b ≠ 0 ∧ K (.int k (a.tmod b))
  | .and => K (.int k (k.wrap (BitVec.ofInt k.bits a &&& BitVec.ofInt k.bits b).toNat))
  | .or => K (.int k (k.wrap (BitVec.ofInt k.bits a ||| BitVec.ofInt k.bits b).toNat))
  | .xor => K (.int k (k.wrap (BitVec.ofInt k.bits a ^^^ BitVec.ofInt k.bits b).toNat))
  | .eql => K (.bool (a == b))
  | .neq => K (.bool (a != b))
  | .lss => K (.bool (a < b))
  | .leq => K (.bool (a ≤ b))
  | .gtr => K (.bool (a > b))
  | .geq => K (.bool (a ≥ b))
  | _ => False

def strBin (op : BinOp) (x y : ByteArray) (K : Value → Prop) : Prop :=
  match op with
  | .eql => K (.bool (x.toList == y.toList))
  | .neq => K (.bool (!(x.toList == y.toList)))
  | _ => False

/-- The cells of fields, by the cells of a type. -/
def flatFs (P : Program) (one : TypeId → Option (List TypeId)) : List Field → Nat → Option (List TypeId)
  | [], _ => some []
  | f :: fs, off =>
    match one f.type, flatFs P one fs (off + ssz P f.type) with
    | some l, some r => bif Nat.beq f.offset off && Nat.beq (ssz P f.type) l.length && !(f.name == "_") then some (l ++ r) else none
    | _, _ => none

/-- The cells of a type all of whose cells are numbers, bools and strings: their types, in order; none: it is not such a type. -/
def flat (P : Program) : Nat → TypeId → Option (List TypeId)
  | 0, _ => none
  | d + 1, t =>
    match P.underlying t with
    | some (.int _) => some [t]
    | some .bool => some [t]
    | some .string => some [t]
    | some (.struct ⟨fs⟩) => bif P.stoodInHeld t then none else flatFs P (flat P d) fs 0
    | some (.array n e) =>
      match flat P d e with
      | some l => bif Nat.beq (ssz P e) l.length && Nat.beq (P.cellsOf e) l.length then some ((List.replicate n l).flatten) else none
      | none => none
    | _ => none

/-- Equality of two cells of one of these kinds. -/
def eq1 (d : Option TypeDesc) (x y : Value) : Option Bool :=
  match d, x, y with
  | some (.int _), .int k a, .int j b => bif kbeq k j then some (a == b) else none
  | some .bool, .bool a, .bool b => some (a == b)
  | some .string, .string a, .string b => some (a.toList == b.toList)
  | _, _, _ => none

def eqB (P : Program) : List TypeId → List Value → List Value → Option Bool
  | [], [], [] => some true
  | t :: ts, x :: xs, y :: ys =>
    match eq1 (P.underlying t) x y, eqB P ts xs ys with
    | some b, some c => some (b && c)
    | _, _ => none
  | _, _, _ => none

def isAggT (P : Program) (t : TypeId) : Bool :=
  match P.underlying t with
  | some (.struct _) => true
  | some (.array ..) => true
  | _ => false

/-- Equality of two aggregates. -/
def eqAgg (P : Program) (t : TypeId) (xs ys : List Value) (K : Bool → Prop) : Prop :=
  match flat P 10 t with
  | some l => bif P.eqGuardType P.depth t || !isAggT P t then False else (match eqB P l xs ys with | some b => K b | none => False)
  | none => False

def nilEq (d : Option TypeDesc) (x y : Value) (K : Bool → Prop) : Prop :=
  match d, x, y with
  | some (.slice _), .slice none _ _, .slice b _ _ => K b.isNone
  | some (.slice _), .slice a _ _, .slice none _ _ => K a.isNone
  | some (.pointer _), .pointer none, .pointer b => K b.isNone
  | some (.pointer _), .pointer a, .pointer none => K a.isNone
  | some (.map _ _), .map none, .map b => K b.isNone
  | some (.map _ _), .map a, .map none => K a.isNone
  | _, _, _ => False

def binOp (P : Program) (op : BinOp) (t : TypeId) (x y : Value) (K : Value → Prop) : Prop :=
  match x, y with
  | .int k a, .int k' b =>
    match op with
    | .shl => 0 ≤ b ∧ K (.int k (k.wrap (a * 2 ^ (min b.toNat k.bits))))
    | .shr => 0 ≤ b ∧ K (.int k (a.fdiv (2 ^ (min b.toNat k.bits))))
    | _ => k = k' ∧ intBin op k a b K
  | .string a, .string b => strBin op a b K
  | .bool a, .bool b =>
    match op with
    | .eql => match P.underlying t with | some .bool => K (.bool (a == b)) | _ => False
    | .neq => match P.underlying t with | some .bool => K (.bool (!(a == b))) | _ => False
    | _ => False
  | .agg ⟨xs⟩, .agg ⟨ys⟩ =>
    match op with
    | .eql => eqAgg P t xs ys fun b => K (.bool b)
    | .neq => eqAgg P t xs ys fun b => K (.bool (!b))
    | _ => False
  | x, y =>
    match op with
    | .eql => nilEq (P.underlying t) x y fun b => K (.bool b)
    | .neq => nilEq (P.underlying t) x y fun b => K (.bool (!b))
    | _ => False

def unOp (op : UnOp) (x : Value) (K : Value → Prop) : Prop :=
  match op, x with
  | .not, .bool b => K (.bool (!b))
  | .neg, .int k n => K (.int k (k.wrap (0 - n)))
  | _, _ => False

def convert (P : Program) (s d : TypeId) (x : Value) (K : Value → Prop) : Prop :=
  match P.underlying s, P.underlying d, x with
  | some (.int _), some (.int k), .int _ n => K (.int k (k.wrap n))
  | some .string, some .string, .string s => K (.string s)
  | _, _, _ => False

/-- x[l:h:m] -/
def cut (a : Option Addr) (c sz : Nat) (l h : Int) (m : Option Int) (K : Option Addr → Nat → Nat → Prop) : Prop :=
  match a with
  | none => l = 0 ∧ h = 0 ∧ (match m with | some m => m = 0 | none => True) ∧ K none 0 0
  | some ⟨i, o, some q⟩ =>
    match m with
    | none => q / 2 = sz ∧ 0 ≤ l ∧ l ≤ h ∧ h ≤ c ∧ K (some ⟨i, o + l.toNat * sz, some q⟩) (h.toNat - l.toNat) (c - l.toNat)
    | some m => q / 2 = sz ∧ 0 ≤ l ∧ l ≤ h ∧ h ≤ m ∧ m ≤ c ∧ K (some ⟨i, o + l.toNat * sz, some (2 * sz + 1)⟩) (h.toNat - l.toNat) (m.toNat - l.toNat)
  | _ => False

def bound (v : Option Value) (d : Int) (K : Int → Prop) : Prop :=
  match v with
  | none => K d
  | some (.int _ i) => K i
  | _ => False

def bound? (v : Option Value) (K : Option Int → Prop) : Prop :=
  match v with
  | none => K none
  | some (.int _ i) => K (some i)
  | _ => False

/-- The cells of an array that lies in memory, as a slice. -/
def cutArr (H : IHeap) (a : Option Addr) (n sz : Nat) (l h : Int) (K : Nat → Nat → Nat → Nat → Prop) : Prop :=
  0 ≤ l ∧ l ≤ h ∧ h ≤ n ∧ pcase a fun i o => (∃ cs, H[i]? = some (.cells cs true) ∧ o + n * sz ≤ cs.length) ∧ K i (o + l.toNat * sz) (h.toNat - l.toNat) (n - l.toNat)

def slice (P : Program) (t : TypeId) (H : IHeap) (x : Value) (lo hi mx : Option Value) (K : Value → Prop) : Prop :=
  match P.underlying t, x with
  | some (.slice e), .slice a n c =>
    bif Nat.ble 1 (ssz P e) && (mx.isNone || hi.isSome) then bound lo 0 fun l => bound hi n fun h => bound? mx fun m => cut a c (ssz P e) l h m fun a' n' c' => K (.slice a' n' c') else False
  | some .string, .string s =>
    bound lo 0 fun l => bound hi s.size fun h => bound? mx fun m => m = none ∧ 0 ≤ l ∧ l ≤ h ∧ h ≤ s.size ∧ K (.string (s.extract l.toNat h.toNat))
  | some (.array n e), .pointer a =>
    bif Nat.ble 1 (ssz P e) then bound lo 0 fun l => bound hi n fun h => bound? mx fun m => m = none ∧ cutArr H a n (ssz P e) l h fun i o n' c => K (.slice (some ⟨i, o, some (2 * ssz P e + 1)⟩) n' c) else False
  | _, _ => False

/-! ### operations that make memory -/
def vcells : Value → Option (List Value)
  | .agg ⟨cs⟩ => some cs
  | .tuple _ => none
  | .chan _ => none
  | v => some [v]

/-- A value that one cell may hold. -/
def okCell : Value → Bool
  | .agg _ | .tuple _ | .chan _ => false
  | _ => true

def box (v : Value) (H : IHeap) (K : Value → IHeap → Prop) : Prop :=
  match v with
  | .agg ⟨cs⟩ => K (newPtr H) (H ++ [.cells cs true])
  | .tuple _ => False
  | .chan _ => False
  | v => K (newPtr H) (H ++ [.cells [v] true])

def zeroOf (P : Program) (t : TypeId) : Option (List Value) :=
  match (P.info? t).bind (·.zero) with
  | some v => bif ground v then vcells v else none
  | none => none

def alloc (P : Program) (t : TypeId) (H : IHeap) (K : Value → IHeap → Prop) : Prop :=
  match zeroOf P t with
  | some cs => K (newPtr H) (H ++ [.cells cs true])
  | none => False

/-- Parts laid into cells. -/
def fillL (place : Nat → Option (Nat × Nat)) (cells : List Value) : List (Nat × Value) → (List Value → Prop) → Prop
  | [], K => K cells
  | (i, v) :: rest, K =>
    match place i, vcells v with
    | some (off, sz), some vs => (vs.length = sz ∧ off + vs.length ≤ cells.length) ∧ fillL place (splice cells off vs) rest K
    | _, _ => False

def fieldPlaces (P : Program) (fs : List Field) : List (Nat × Nat) := fs.map fun f => (f.offset, ssz P f.type)

def build (P : Program) (t : TypeId) (ps : List (Nat × Value)) (K : Value → Prop) : Prop :=
  match P.underlying t, zeroOf P t with
  | some (.struct ⟨fs⟩), some zs => bif fs.all (fun f => (P.info? f.type).isSome) then fillL (fun i => (fieldPlaces P fs)[i]?) zs ps fun cs => K (.agg ⟨cs⟩) else False
  | some (.array _ e), some zs => bif (P.info? e).isSome then fillL (fun i => some (i * ssz P e, ssz P e)) zs ps fun cs => K (.agg ⟨cs⟩) else False
  | _, _ => False

def repeatL : Nat → List Value → List Value
  | 0, _ => []
  | n + 1, zs => zs ++ repeatL n zs

def buildSlice (P : Program) (t : TypeId) (len : Nat) (ps : List (Nat × Value)) (H : IHeap) (K : Value → IHeap → Prop) : Prop :=
  match P.underlying t with
  | some (.slice e) =>
    match zeroOf P e with
    | some zs =>
      bif Nat.beq zs.length (ssz P e) && Nat.ble 1 (ssz P e) && Nat.ble (len * ssz P e) 16777216 then
        fillL (fun i => some (i * ssz P e, ssz P e)) (repeatL len zs) ps fun cs => K (.slice (some ⟨H.length, 0, some (2 * ssz P e + 1)⟩) len len) (H ++ [.cells cs true])
      else False
    | none => False
  | _ => False

/-- make([]T, n) -/
def mkSlice (zs : List Value) (n : Int) (sz by_ : Nat) (H : IHeap) (K : Value → IHeap → Prop) : Prop :=
  0 ≤ n ∧ n * by_ ≤ 281474976710656 ∧ n ≤ 281474976710656 ∧ K (.slice (some ⟨H.length, 0, some (2 * sz + 1)⟩) n.toNat n.toNat) (H ++ [.cells (repeatL n.toNat zs) true])

def makeSlice (P : Program) (t : TypeId) (l c : Value) (H : IHeap) (K : Value → IHeap → Prop) : Prop :=
  match P.underlying t, l, c with
  | some (.slice e), .int _ n, .int _ m =>
    match zeroOf P e with
    | some zs => bif Nat.beq zs.length (ssz P e) && Nat.ble 1 (ssz P e) then n = m ∧ mkSlice zs n (ssz P e) (sby P e) H K else False
    | none => False
  | _, _, _ => False

/-! ### append -/
/-- The cells that a slice holds. -/
def sliceCells (H : IHeap) (a : Option Addr) (n sz : Nat) (K : List Value → Prop) : Prop :=
  match a with
  | none => n = 0 ∧ K []
  | some ⟨i, o, some _⟩ => ∃ cs, cellsAt H i o (n * sz) = some cs ∧ K cs
  | _ => False

def newSlice (H : IHeap) (n sz : Nat) : Value := .slice (some ⟨H.length, 0, some (2 * sz)⟩) n n

/-- append(x, ..): in place where there is room for certain; a new row for certain; or neither is known: then the old row is not to be looked at any more. -/
def appended (H : IHeap) (a : Option Addr) (n c m sz : Nat) (old new : List Value) (K : Value → IHeap → Prop) : Prop :=
  bcase (Nat.beq m 0) (K (.slice a n c) H)
    (match a with
    | none => K (newSlice H (n + m) sz) (H ++ [.cells (old ++ new) true])
    | some ⟨i, o, some q⟩ =>
      (q / 2 = sz ∧ new.all okCell = true) ∧
      (n + m ≤ c → stCells H i (o + n * sz) new fun H' => K (.slice (some ⟨i, o, some q⟩) (n + m) c) H') ∧
      (c < n + m → bcase (Nat.beq (q % 2) 1) (K (newSlice H (n + m) sz) (H ++ [.cells (old ++ new) true]))
        ((∃ cs, H[i]? = some (.cells cs true)) ∧ K (newSlice H (n + m) sz) (H.set i .dead ++ [.cells (old ++ new) true])))
    | _ => False)

def rowOk (P : Program) (e : TypeId) : Bool :=
  Nat.ble 1 (ssz P e) &&
  match zeroOf P e with
  | some zs => Nat.beq zs.length (ssz P e)
  | none => false

def append (P : Program) (t : TypeId) (x y : Value) (H : IHeap) (K : Value → IHeap → Prop) : Prop :=
  match P.underlying t, x, y with
  | some (.slice e), .slice a n c, .slice b m _ =>
    bif rowOk P e then
      ((n + m) * sby P e ≤ 70368744177664 ∧ n + m ≤ 70368744177664) ∧
      sliceCells H a n (ssz P e) fun old => sliceCells H b m (ssz P e) fun new => appended H a n c m (ssz P e) old new K
    else False
  | _, _, _ => False

end Ide
