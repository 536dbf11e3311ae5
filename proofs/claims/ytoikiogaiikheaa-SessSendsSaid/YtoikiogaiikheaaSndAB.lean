/- The ideal meaning of calls, regions and code. -/
import Derived.Test.YtoikiogaiikheaaSndAA
import Derived.Laws.Cells
import Derived.Laws.CopyRow
import Derived.Laws.CopyOwn
set_option linter.unusedSectionVars false
set_option linter.unusedVariables false
set_option linter.unusedSimpArgs false
namespace Ide
open Go Go.RowKit
variable [Pol]

/-! ### maps -/
/-- Equality of two keys; none: they are no keys of the type. -/
def keq (P : Program) (t : TypeId) (x y : Value) : Option Bool :=
  match flat P 10 t, x, y with
  | some l, .agg ⟨xs⟩, .agg ⟨ys⟩ => bif isAggT P t then eqB P l xs ys else none
  | some l, x, y => bif isAggT P t then none else eqB P l [x] [y]
  | none, _, _ => none

/-- The entry of a key; none: there are no keys of the type. -/
def findE (P : Program) (t : TypeId) (k : Value) : List MapEntry → Option (Option MapEntry)
  | [] => some none
  | e :: es =>
    match keq P t k e.key with
    | some true => some (some e)
    | some false => findE P t k es
    | none => none

/-- A key that may be looked for. -/
def keyOk (P : Program) (t : TypeId) (k : Value) : Bool := (keq P t k k).isSome && ground k

def mapAt (H : IHeap) (r : Nat) (K : List MapEntry → Nat → Prop) : Prop := ∃ es clock, H[r]? = some (.map es clock) ∧ K es clock

def zeroV (P : Program) (t : TypeId) : Option Value :=
  match (P.info? t).bind (·.zero) with
  | some v => bif ground v then some v else none
  | none => none

/-- What a map holds for a key. -/
def lookE (P : Program) (t : TypeId) (es : List MapEntry) (k : Value) (d : Option TypeDesc) (z : Value) (K : Value → Bool → Prop) : Prop :=
  match findE P t k es with
  | some (some e) => shaped d e.val fun v => K v true
  | some none => K z false
  | none => False

def mapLook (H : IHeap) (m : Option Nat) (K : List MapEntry → Prop) : Prop :=
  match m with
  | none => K []
  | some r => mapAt H r fun es _ => K es

def okV (ok : Bool) (v : Value) (b : Bool) : Value :=
  match ok with
  | true => .tuple ⟨[v, .bool b]⟩
  | false => v

def lookup (P : Program) (t : TypeId) (H : IHeap) (m k : Value) (ok : Bool) (K : Value → Prop) : Prop :=
  match P.underlying t, m with
  | some (.map kt et), .map r =>
    match zeroV P et with
    | some z => keyOk P kt k = true ∧ mapLook H r fun es => lookE P kt es k (P.underlying et) z fun v b => K (okV ok v b)
    | none => False
  | _, _ => False

def setVal (P : Program) (t : TypeId) (k v : Value) : List MapEntry → List MapEntry
  | [] => []
  | e :: es =>
    match keq P t k e.key with
    | some true => { e with key := k, val := v } :: es
    | _ => e :: setVal P t k v es

/-- m[k] = v -/
def putE (P : Program) (t : TypeId) (es : List MapEntry) (clock : Nat) (k v : Value) (K : List MapEntry → Nat → Prop) : Prop :=
  match findE P t k es with
  | some (some _) => K (setVal P t k v es) clock
  | some none => K (es ++ [{ key := k, val := v, born := clock }]) (clock + 1)
  | none => False

def mapUpdate (P : Program) (t : TypeId) (H : IHeap) (m k v : Value) (K : IHeap → Prop) : Prop :=
  match P.underlying t, m with
  | some (.map kt et), .map (some r) => keyOk P kt k = true ∧ mapAt H r fun es clock => putE P kt es clock k v fun es' c' => K (H.set r (.map es' c'))
  | _, _ => False

def eraseE (P : Program) (t : TypeId) (k : Value) : List MapEntry → List MapEntry
  | [] => []
  | e :: es =>
    match keq P t k e.key with
    | some true => es
    | _ => e :: eraseE P t k es

def mapDelete (P : Program) (t : TypeId) (H : IHeap) (m k : Value) (K : IHeap → Prop) : Prop :=
  match P.underlying t, m with
  | some (.map kt et), .map (some r) => keyOk P kt k = true ∧ mapAt H r fun es clock => (findE P kt k es).isSome = true ∧ K (H.set r (.map (eraseE P kt k es) clock))
  | some (.map kt et), .map none => keyOk P kt k = true ∧ K H
  | _, _ => False

/-- A place in a map for m[k] op= .. -/
def mapEntry (P : Program) (t : TypeId) (H : IHeap) (m k : Value) (K : Value → IHeap → Prop) : Prop :=
  match P.underlying t, m with
  | some (.map kt et), .map (some r) =>
    match zeroV P et with
    | some z => keyOk P kt k = true ∧ mapAt H r fun es clock =>
        match findE P kt k es with
        | none => False
        | some (some e) => shaped (P.underlying et) e.val fun v => K (.tuple ⟨[v, .int .i64 e.born]⟩) (H.set r (.map (setVal P kt k e.val es) clock))
        | some none => K (.tuple ⟨[z, .int .i64 clock]⟩) (H.set r (.map (es ++ [{ key := k, val := z, born := clock }]) (clock + 1)))
    | none => False
  | _, _ => False

def setBorn (b : Int) (v : Value) : List MapEntry → Option (List MapEntry)
  | [] => none
  | e :: es => bif (e.born : Int) == b then some ({ e with val := v } :: es) else (setBorn b v es).map (e :: ·)

def entryStore (H : IHeap) (m s v : Value) (K : IHeap → Prop) : Prop :=
  match m, s with
  | .map (some r), .int _ b => mapAt H r fun es clock => ∃ es', setBorn b v es = some es' ∧ K (H.set r (.map es' clock))
  | _, _ => False

/-! ### what a call comes to -/
inductive IEnd where
  | ret (v : Value)
  | panic (v : Value)

structure Step (β : Emb) (w : World) (β' : Emb) (w' : World) : Prop where
  le : β.le β'
  size : w.heap.size ≤ w'.heap.size
  newb : ∀ id l', β'.loc id = some l' → (∃ id0 l0, β.loc id0 = some l0 ∧ l0.block = l'.block) ∨ w.heap.size ≤ l'.block
  frame : ∀ k, k < w.heap.size → (∀ id l, β.loc id = some l → l.block ≠ k) → w'.heap[k]? = w.heap[k]?

theorem Step.refl (β : Emb) (w : World) : Step β w β w := ⟨Emb.le.refl _, Nat.le_refl _, fun id l h => .inl ⟨id, l, h, rfl⟩, fun _ _ _ => rfl⟩

theorem Step.trans {a b c : Emb} {w w' w'' : World} (h : Step a w b w') (h' : Step b w' c w'') : Step a w c w'' where
  le := h.le.trans h'.le
  size := Nat.le_trans h.size h'.size
  newb := fun id l' hl => by
    rcases h'.newb id l' hl with ⟨i0, l0, h0, e0⟩ | hge
    · rcases h.newb i0 l0 h0 with ⟨i1, l1, h1, e1⟩ | hge
      · exact .inl ⟨i1, l1, h1, e1.trans e0⟩
      · exact .inr (by omega)
    · exact .inr (Nat.le_trans h.size hge)
  frame := fun k hk hn => by
    rw [h'.frame k (Nat.lt_of_lt_of_le hk h.size) ?_, h.frame k hk hn]
    intro id l hl he
    rcases h.newb id l hl with ⟨i0, l0, h0, e0⟩ | hge
    · exact hn i0 l0 h0 (e0.trans he)
    · omega

def Ends (β' : Emb) (H' : IHeap) (R : IEnd → IHeap → Prop) : Ending → Prop
  | .returned v' => ∃ v, VRel β'.loc v v' ∧ R (.ret v) H'
  | .panicked chain => ∃ v v', chain = [{ v := v', recovered := false }] ∧ VRel β'.loc v v' ∧ R (.panic v) H'
  | .outgrown => False

def After (β : Emb) (w : World) (R : IEnd → IHeap → Prop) (e : Ending) (w' : World) : Prop := ∃ β' H', Step β w β' w' ∧ Sim β' H' w' ∧ Ends β' H' R e

theorem Ends.mono {β' : Emb} {H' : IHeap} {R R' : IEnd → IHeap → Prop} {e : Ending} (h : Ends β' H' R e) (hr : ∀ e, R e H' → R' e H') : Ends β' H' R' e := by
  match e, h with
  | .returned v', ⟨v, h1, h2⟩ => exact ⟨v, h1, hr _ h2⟩
  | .panicked chain, ⟨v, v', h1, h2, h3⟩ => exact ⟨v, v', h1, h2, hr _ h3⟩

def callable (P : Program) (f : FuncId) : Bool :=
  match P.funcs[f]? with
  | some fn => !(fn.name == "runtime.NumGoroutine") && fn.body.isSome
  | none => false

def ICalls (P : Program) (f : FuncId) (args : List Value) (H : IHeap) (R : IEnd → IHeap → Prop) : Prop :=
  callable P f = true ∧ ∀ (β : Emb) (w : World) (args' : Array Value), Sim β H w → VsRel β.loc args args'.toList → CallsIn Fence.wide 0 P f args' w (After β w R)

theorem ICalls.mono {P : Program} {f : FuncId} {args : List Value} {H : IHeap} {R R' : IEnd → IHeap → Prop} (h : ICalls P f args H R) (hr : ∀ e H', R e H' → R' e H') : ICalls P f args H R' :=
  ⟨h.1, fun β w args' hs ha => (h.2 β w args' hs ha).mono fun e w' ⟨β', H', h1, h2, h3⟩ => ⟨β', H', h1, h2, h3.mono fun e => hr e H'⟩⟩

def IRound (P : Program) (l : Nat) (fn : FuncId) (env : Env) (nt : Nat) (assign body : Code) (H : IHeap) (R : IEnd → IHeap → Prop) : Prop :=
  ∀ (β : Emb) (w : World) (tmps : Array Value) (ll : Loc), Sim β H w → β.loc l = some ll → TRel β.loc nt env tmps → RoundIn Fence.wide 0 P ll.block fn tmps assign body w (After β w R)

theorem IRound.mono {P : Program} {l : Nat} {fn : FuncId} {env : Env} {nt : Nat} {assign body : Code} {H : IHeap} {R R' : IEnd → IHeap → Prop} (h : IRound P l fn env nt assign body H R) (hr : ∀ e H', R e H' → R' e H') : IRound P l fn env nt assign body H R' :=
  fun β w tmps ll hs hl ht => (h β w tmps ll hs hl ht).mono fun e w' ⟨β', H', h1, h2, h3⟩ => ⟨β', H', h1, h2, h3.mono fun e => hr e H'⟩

def putAll (params : List Tmp) (args : List Value) (e : Env) : Env :=
  match params, args with
  | t :: ts, v :: vs => putAll ts vs ((t, v) :: e)
  | _, _ => e

def IYield (P : Program) (l : Nat) (args : List Value) (H : IHeap) (R : IEnd → IHeap → Prop) : Prop :=
  ∃ st pend fn tm nt params assign body, H[l]? = some (.loop st pend fn tm nt params assign body) ∧ args.length = params.size ∧ params.toList.all (Nat.blt · nt) = true ∧
    ∀ fn, IRound P l fn (putAll params.toList args tm) nt assign body H R

/-- The call of a function value. -/
def icallV (P : Program) (v : Value) (args : List Value) (H : IHeap) (R : IEnd → IHeap → Prop) : Prop :=
  match v with
  | .func (.func g) ⟨first⟩ ⟨cap⟩ => ICalls P g (first ++ args ++ cap) H R
  | .func (.yield l) _ _ => IYield P l args H R
  | _ => False

/-- Behind a call: its value goes on, or its panic. -/
def endK (P : Program) (t : TypeId) (K : Value → IHeap → Prop) (Qp : Value → IHeap → Prop) (e : IEnd) (H : IHeap) : Prop :=
  match e with
  | .ret v => result P t v fun v => K v H
  | .panic v => Qp v H

/-! ### operations -/
def lenOf (P : Program) (t : TypeId) (H : IHeap) (v : Value) (K : Value → Prop) : Prop :=
  match P.underlying t, v with
  | some .string, .string s => K (.int .i64 s.size)
  | some (.slice _), .slice _ n _ => K (.int .i64 n)
  | some (.array n _), _ => K (.int .i64 n)
  | some (.pointer a), _ => match P.underlying a with | some (.array n _) => K (.int .i64 n) | _ => False
  | some (.map _ _), .map r => mapLook H r fun es => K (.int .i64 es.length)
  | _, _ => False

def minMaxGo (mx : Bool) (k : IntKind) : Int → List Value → (Value → Prop) → Prop
  | a, [], K => K (.int k a)
  | a, .int _ b :: r, K => minMaxGo mx k (match mx with | true => if b > a then b else a | false => if b < a then b else a) r K
  | _, _, _ => False

def minMax (mx : Bool) (vs : List Value) (K : Value → Prop) : Prop :=
  match vs with
  | .int k a :: r => minMaxGo mx k a r K
  | _ => False

def zeros (P : Program) (t : TypeId) (n : Nat) (K : List Value → Prop) : Prop :=
  match zeroOf P t with
  | some zs => bif (Nat.beq zs.length (ssz P t) && Nat.ble 1 (ssz P t)) && zs.all okCell then K (repeatL n zs) else False
  | none => False

def clearOf (P : Program) (t : TypeId) (H : IHeap) (v : Value) (K : IHeap → Prop) : Prop :=
  match P.underlying t, v with
  | some (.map _ _), .map none => K H
  | some (.map _ _), .map (some r) => mapAt H r fun _ clock => K (H.set r (.map [] clock))
  | some (.slice e), .slice a n _ =>
    bcase (Nat.beq n 0) (K H) (acase a fun i o _ => zeros P e n fun zs => stCells H i o zs K)
  | _, _ => False

/-- copy(x, y) -/
def copyOf (P : Program) (t : TypeId) (H : IHeap) (x y : Value) (K : Value → IHeap → Prop) : Prop :=
  match P.underlying t, x, y with
  | some (.slice e), .slice a n _, .slice b m _ =>
    bif Nat.ble 1 (ssz P e) then
      sliceCells H b (min m n) (ssz P e) fun new =>
        bcase (Nat.beq (min m n) 0) (K (.int .i64 0) H)
          (acase a fun i o _ => new.all okCell = true ∧ stCells H i o new fun H' => K (.int .i64 (min m n : Nat)) H')
    else False
  | _, _, _ => False

def icallB (P : Program) (b : Builtin) (ts : List TypeId) (args : List Value) (H : IHeap) (K : Value → IHeap → Prop) (Qp : Value → IHeap → Prop) : Prop :=
  match b, ts, args with
  | .append, t :: u :: _, x :: y :: _ =>
    match P.underlying u with
    | some (.slice _) => append P t x y H K
    | _ => False
  | .len, t :: _, x :: _ => lenOf P t H x fun v => K v H
  | .min, _, vs => minMax false vs fun v => K v H
  | .max, _, vs => minMax true vs fun v => K v H
  | .delete, t :: _, m :: k :: _ => mapDelete P t H m k fun H' => K (.tuple ⟨[]⟩) H'
  | .clear, t :: _, x :: _ => clearOf P t H x fun H' => K (.tuple ⟨[]⟩) H'
  | .copy, t :: u :: _, x :: y :: _ =>
    match P.underlying u with
    | some (.slice _) => copyOf P t H x y K
    | _ => False
  | _, _, _ => False

def icall (P : Program) (t : TypeId) (c : Call) (env : Env) (H : IHeap) (K : Value → IHeap → Prop) (Qp : Value → IHeap → Prop) : Prop :=
  match c.callee with
  | .value f => icallV P (iev env f) (c.args.toList.map (iev env)) H (endK P t K Qp)
  | .builtin b => icallB P b c.argTypes.toList (c.args.toList.map (iev env)) H K Qp
  | .invoke .. => False

def pickV (c : Bool) (a b : Value) (K : Value → Prop) : Prop :=
  match a, b with
  | .bool x, .bool y => K (.bool (cond c x y))
  | _, _ => bcase c (K a) (K b)

/-- A store of cells. -/
def stV (P : Program) (t : TypeId) (H : IHeap) (i o : Nat) (v : Value) (K : IHeap → Prop) : Prop :=
  match vcells v with
  | some vs => bif Nat.ble 1 (ssz P t) then (vs.length = ssz P t ∧ vs.all okCell = true) ∧ stCells H i o vs K else False
  | none => False

/-- One step of an iteration over a map: any of what is left may come. -/
def nextOf (H : IHeap) (it : Value) (K : Value → IHeap → Prop) : Prop :=
  match it with
  | .pointer (some ⟨r, 0, none⟩) =>
    ∃ m since seen stepped, H[r]? = some (.mapIter m since seen stepped) ∧
      match m with
      | none => K (.tuple ⟨[.bool false]⟩) H
      | some id => mapAt H id fun es clock =>
          (seen = #[] ∨ es = [] ∨ (es.all (fun e => decide (e.born ≥ stepped))) = false) ∧
          ((es.filter fun e => !seen.contains e.born && decide (e.born < since)) = [] → K (.tuple ⟨[.bool false]⟩) H) ∧
          (∀ e, e ∈ es → seen.contains e.born = false → K (.tuple ⟨[.bool true, e.key, e.val]⟩) (H.set r (.mapIter m since (seen.push e.born) clock)))
  | _ => False

def rangeOf (P : Program) (t : TypeId) (H : IHeap) (m : Value) (K : Value → IHeap → Prop) : Prop :=
  match P.underlying t, m with
  | some (.map _ _), .map none => K (newPtr H) (newO H (.mapIter none 0 #[] 0))
  | some (.map _ _), .map (some r) => mapAt H r fun _ clock => K (newPtr H) (newO H (.mapIter (some r) clock #[] clock))
  | _, _ => False

def entryOf (H : IHeap) (it : Value) (K : Value → Prop) : Prop :=
  match it with
  | .pointer (some ⟨r, 0, none⟩) =>
    ∃ id since seen stepped e, H[r]? = some (.mapIter (some id) since seen stepped) ∧ mapAt H id fun es clock =>
      seen.back? = some e ∧ clock = stepped ∧ ∃ x, es.find? (·.born == e) = some x ∧ K (.tuple ⟨[x.key, x.val]⟩)
  | _ => False

def typeAssert (P : Program) (x : Value) (t : TypeId) (ok : Bool) (K : Value → Prop) : Prop :=
  match P.underlying t, zeroV P t, ok, x with
  | some (.interface _), _, _, _ => False
  | some _, some z, true, .nilIface => K (.tuple ⟨[z, .bool false]⟩)
  | some d, some z, true, .iface u v => bcase (Nat.beq u t) (shaped (some d) v fun v => K (.tuple ⟨[v, .bool true]⟩)) (K (.tuple ⟨[z, .bool false]⟩))
  | _, _, _, _ => False

def extractOf (v : Value) (i : Nat) (K : Value → Prop) : Prop :=
  match v with
  | .tuple ⟨vs⟩ => cellOf vs i K
  | _ => False

def iop (P : Program) (o : Oper) (env : Env) (H : IHeap) (K : Value → IHeap → Prop) (Qp : Value → IHeap → Prop) : Prop :=
  match o.op with
  | .move x => K (iev env x) H
  | .assign x => K (iev env x) H
  | .pick c a b =>
    match iev env c with
    | .bool c => pickV c (iev env a) (iev env b) fun v => K v H
    | _ => False
  | .alloc t => alloc P t H K
  | .box t x => box (iev env x) H K
  | .build t ps => build P t (ps.toList.map fun p => (p.1, iev env p.2)) fun v => K v H
  | .buildSlice t n ps => buildSlice P t n (ps.toList.map fun p => (p.1, iev env p.2)) H K
  | .load t a =>
    ptrAt (iev env a) fun i f => load P t H i f fun v => K v H
  | .store t a x =>
    ptrAt (iev env a) fun i f => stV P t H i f (iev env x) fun H' => K anyV H'
  | .nilCheck x =>
    match iev env x with
    | .pointer a => pcase a fun i f => K (ptrTo i f) H
    | .func f a b => K (.func f a b) H
    | _ => False
  | .binOp op t x y _ => binOp P op t (iev env x) (iev env y) fun v => K v H
  | .unOp op _ x => unOp op (iev env x) fun v => K v H
  | .convert s d x => convert P s d (iev env x) fun v => K v H
  | .makeInterface t x =>
    match P.underlying t with
    | some (.interface _) => False
    | some _ => K (.iface t (iev env x)) H
    | none => False
  | .makeFunc (.func f) first cap => K (.func (.func f) ⟨first.toList.map (iev env)⟩ ⟨cap.toList.map (iev env)⟩) H
  | .makeMap _ none => K (.map (some (Pol.pos H))) (newO H (.map [] 0))
  | .makeSlice t l c => makeSlice P t (iev env l) (iev env c) H K
  | .slice t x lo hi mx => slice P t H (iev env x) (lo.map (iev env)) (hi.map (iev env)) (mx.map (iev env)) fun v => K v H
  | .fieldAddr t x f => fieldAddr P t (iev env x) f fun v => K v H
  | .field t x f => field P t (iev env x) f fun v => K v H
  | .indexAddr t x i => indexAddr P t (iev env x) (iev env i) fun v => K v H
  | .index t x i => index P t (iev env x) (iev env i) fun v => K v H
  | .lookup t m k ok => lookup P t H (iev env m) (iev env k) ok fun v => K v H
  | .mapUpdate t m k v => mapUpdate P t H (iev env m) (iev env k) (iev env v) fun H' => K anyV H'
  | .insert t m k v => mapUpdate P t H (iev env m) (iev env k) (iev env v) fun H' => K anyV H'
  | .mapEntry t m k => mapEntry P t H (iev env m) (iev env k) K
  | .entryStore _ m s v => entryStore H (iev env m) (iev env s) (iev env v) fun H' => K anyV H'
  | .range t x => rangeOf P t H (iev env x) K
  | .next it false => nextOf H (iev env it) K
  | .entry it => entryOf H (iev env it) fun v => K v H
  | .typeAssert x _ t ok => typeAssert P (iev env x) t ok fun v => K v H
  | .extract x i => extractOf (iev env x) i fun v => K v H
  | .call c => icall P o.type c env H K Qp
  | .panic x =>
    match iev env x with
    | .iface t v => Qp (.iface t v) H
    | _ => False
  | _ => False

/-! ### regions -/
def dstAt (all : List Oper) (j : Nat) : Option Nat := (all[j]?).bind (·.dst)

/-- Is the operation wanted? -/
def guarded (all : List Oper) (g : Option (Nat × Bool)) (env : Env) (Y N : Env → Prop) : Prop :=
  match g with
  | none => Y env
  | some (j, want) =>
    match dstAt all j with
    | none => N env
    | some t =>
      match lk env t with
      | .bool b =>
        bcase b (match want with | true => Y ((t, .bool true) :: env) | false => N ((t, .bool true) :: env))
          (match want with | true => N ((t, .bool false) :: env) | false => Y ((t, .bool false) :: env))
      | .tuple ⟨[]⟩ => N env
      | _ => False

/-- A region in the text's order. -/
def irun (P : Program) (all : List Oper) : List Oper → Env → IHeap → (Env → IHeap → Prop) → (Value → IHeap → Prop) → Prop
  | [], env, H, K, _ => K env H
  | o :: l, env, H, K, Qp =>
    guarded all o.guard env (fun env => iop P o env H (fun v H' => irun P all l (put env o.dst v) H' K Qp) Qp) (fun env => irun P all l (put env o.dst undef) H K Qp)

/-! a region whose order is open -/
inductive OK where
  | pure | reads | makes | acts
  deriving DecidableEq

def kindOf : Op → OK
  | .move _ | .pick .. | .build .. | .nilCheck _ | .binOp .. | .unOp .. | .convert .. | .makeFunc .. | .fieldAddr .. | .indexAddr .. | .extract .. => .pure
  | .slice .. => .pure
  | .load .. | .lookup .. => .reads
  | .alloc _ | .box .. | .buildSlice .. | .makeMap .. | .makeSlice .. => .makes
  | .call { callee := .builtin .len, .. } => .reads
  | .call { callee := .builtin .min, .. } => .pure
  | .call { callee := .builtin .max, .. } => .pure
  | _ => .acts

def isActs (o : Oper) : Bool := match kindOf o.op with | .acts => true | _ => false

/-- What must be done ahead of each operation, as bits. -/
def befores : List Oper → List Nat → List Nat
  | [], acc => acc
  | o :: l, acc => befores l (acc ++ [o.after.toList.foldl (fun s e => bif Region.binds .any e then s ||| 2 ^ e.on ||| acc.getD e.on 0 else s) 0])

def bitsIn (a b : Nat) : Bool := Nat.beq (a &&& b) a

/-- The first operation that may come: what does not act ahead of what acts. -/
def pickOp (all : List Oper) (bs : List Nat) (done : Nat) (acts : Bool) : Nat → List Oper → Option Nat
  | _, [] => none
  | i, o :: l => bif !(done.testBit i) && (isActs o == acts) && bitsIn (bs.getD i 0) done then some i else pickOp all bs done acts (i + 1) l

def canonGo (all : List Oper) (bs : List Nat) : Nat → Nat → List Nat
  | 0, _ => []
  | n + 1, done =>
    match pickOp all bs done false 0 all with
    | some i => i :: canonGo all bs n (done ||| 2 ^ i)
    | none =>
      match pickOp all bs done true 0 all with
      | some i => i :: canonGo all bs n (done ||| 2 ^ i)
      | none => []

def canon (all : List Oper) : List Nat := canonGo all (befores all []) all.length 0

/-- What was read, or made, and must be so still behind what acts beside it. -/
abbrev Watch := List (Nat × (IHeap → Prop))

def reload (a v : Value) (H : IHeap) : Prop :=
  match a, v with
  | .pointer (some ⟨i, o, none⟩), .agg ⟨cs⟩ => cellsAt H i o cs.length = some cs
  | .pointer (some ⟨i, o, none⟩), v => cellAt H i o = some v
  | _, _ => False

def remap (m : Value) (H H' : IHeap) : Prop :=
  match m with
  | .map (some r) => ∃ es c, H[r]? = some (.map es c) ∧ H'[r]? = some (.map es c)
  | .map none => True
  | .string _ => True
  | .slice .. => True
  | _ => False

/-- A block that is sliced is of the same length still. -/
def rearr (x : Value) (H H' : IHeap) : Prop :=
  match x with
  | .pointer (some ⟨b, _, none⟩) => ∃ cs cs', H[b]? = some (.cells cs true) ∧ H'[b]? = some (.cells cs' true) ∧ cs'.length = cs.length
  | _ => True

def watchOf (i : Nat) (o : Oper) (env : Env) (v : Value) (H H1 : IHeap) : Watch :=
  match o.op with
  | .load _ a => [(i, reload (iev env a) v)]
  | .lookup _ m _ _ => [(i, remap (iev env m) H)]
  | .slice _ x _ _ _ => [(i, rearr (iev env x) H)]
  | .call { args := ⟨x :: _⟩, callee := .builtin .len, .. } => [(i, remap (iev env x) H)]
  | .alloc _ | .box .. | .buildSlice .. | .makeMap .. | .makeSlice .. => [(i, fun H' => ∃ o, H1[Pol.pos H]? = some o ∧ H'[Pol.pos H]? = some o)]
  | _ => []

def watching (ws : Watch) (bm : Nat) (H : IHeap) (X : Prop) : Prop :=
  match ws with
  | [] => X
  | (k, w) :: r => bif bm.testBit k then watching r bm H X else w H ∧ watching r bm H X

def irunD (P : Program) (all : List Oper) (bs : List Nat) : List Nat → Env → IHeap → Watch → (Env → IHeap → Prop) → (Value → IHeap → Prop) → Prop
  | [], env, H, _, K, _ => K env H
  | i :: l, env, H, ws, K, Qp =>
    match all[i]? with
    | none => False
    | some o =>
      guarded all o.guard env
        (fun env => iop P o env H (fun v H' =>
          bif isActs o then watching ws (bs.getD i 0) H' (irunD P all bs l (put env o.dst v) H' ws K Qp)
          else irunD P all bs l (put env o.dst v) H' (watchOf i o env v H H' ++ ws) K Qp) Qp)
        (fun env => irunD P all bs l (put env o.dst undef) H ws K Qp)

/-! ### code -/
inductive IExit where
  | normal
  | exit (id : Nat)
  | ret
  | panic (v : Value)

def thn (next : Env → IHeap → Prop) (Q : IExit → Env → IHeap → Prop) : IExit → Env → IHeap → Prop
  | .normal, env, H => next env H
  | e, env, H => Q e env H

def inB (id : Nat) (Q : IExit → Env → IHeap → Prop) : IExit → Env → IHeap → Prop
  | .exit i, env, H => bif Nat.beq i id then Q .normal env H else Q (.exit i) env H
  | e, env, H => Q e env H

def memN (t : Nat) : List Nat → Bool
  | [] => false
  | x :: l => bif Nat.beq x t then true else memN t l

def insN (t : Nat) : List Nat → List Nat
  | [] => [t]
  | x :: l => bif Nat.beq x t then x :: l else bif Nat.ble t x then t :: x :: l else x :: insN t l

def unN (a b : List Nat) : List Nat := b.foldl (fun l t => insN t l) a
def minusN (a b : List Nat) : List Nat := a.filter fun t => !memN t b

def tmpsOf : List Operand → List Nat
  | [] => []
  | .tmp t :: l => insN t (tmpsOf l)
  | _ :: l => tmpsOf l

def genOps : List Oper → List Nat → List Nat → List Nat
  | [], _, acc => acc
  | o :: l, def_, acc => genOps l (match o.dst, o.guard with | some t, none => insN t def_ | _, _ => def_) (unN acc (minusN (tmpsOf o.op.operands.toList) def_))

def defOps : List Oper → List Nat → List Nat
  | [], acc => acc
  | o :: l, acc => defOps l (match o.dst with | some t => insN t acc | none => acc)

/-- The temporaries that code defines for certain. -/
def defs : Code → List Nat
  | .region _ ops _ => defOps ops.toList []
  | .seq a b => unN (defs a) (defs b)
  | .cond _ a b => (defs a).filter fun t => memN t (defs b)
  | _ => []

/-- The temporaries that code reads ahead of defining them (or more). -/
def gens : Code → List Nat
  | .region _ ops _ => genOps ops.toList [] []
  | .seq a b => unN (gens a) (minusN (gens b) (defs a))
  | .cond c a b => unN (tmpsOf [c]) (unN (gens a) (gens b))
  | .block _ a => gens a
  | .loop a => gens a
  | .scope a => gens a
  | .rangeFunc g ps a b => unN (tmpsOf [g]) (minusN (unN (gens a) (minusN (gens b) (defs a))) ps.toList)
  | _ => []

def live (c : Code) (lo : List Nat) : List Nat := unN (gens c) (minusN lo (defs c))

/-- The end of a range over a function: the loop's record tells how to go on. -/
def rangeEnd (l : Nat) (H : IHeap) (Q : IExit → IHeap → Prop) : Prop :=
  ∃ st pend fn tm nt params assign body, H[l]? = some (.loop st pend fn tm nt params assign body) ∧ st ≠ .busy ∧
    match pend with
    | none => Q .normal (H.set l (.loop .exhausted pend fn tm nt params assign body))
    | some .ret => Q .ret (H.set l (.loop .exhausted pend fn tm nt params assign body))
    | some (.exit id) => Q (.exit id) (H.set l (.loop .exhausted pend fn tm nt params assign body))
    | _ => False

def iwp (P : Program) (nt : Nat) : Code → List Nat → (IExit → Env → IHeap → Prop) → Env → IHeap → Prop
  | .skip, _, Q, env, H => Q .normal env H
  | .region _ ops false, _, Q, env, H => irun P ops.toList ops.toList env H (Q .normal) (fun v => Q (.panic v) [])
  | .region _ ops true, _, Q, env, H => irunD P ops.toList (befores ops.toList []) (canon ops.toList) env H [] (Q .normal) (fun v => Q (.panic v) [])
  | .seq a b, lo, Q, env, H => iwp P nt a (live b lo) (thn (fun env H => iwp P nt b lo Q (keep (live b lo) env) H) Q) env H
  | .cond c a b, lo, Q, env, H =>
    match iev env c with
    | .bool t => bcase t (iwp P nt a lo Q env H) (iwp P nt b lo Q env H)
    | _ => False
  | .block id a, lo, Q, env, H => iwp P nt a lo (inB id Q) env H
  | .loop a, lo, Q, env, H =>
    ∀ X : Env → IHeap → Prop, (∀ env H, iwp P nt a (live a lo) (thn (fun env H => X (keep (live (.loop a) lo) env) H) Q) env H → X env H) → X (keep (live (.loop a) lo) env) H
  | .rangeFunc g ps assign body, lo, Q, env, H =>
    match iev env g with
    | .func (.func gf) ⟨first⟩ ⟨cap⟩ =>
      ICalls P gf (first ++ [.func (.yield (Pol.pos H)) #[] #[]] ++ cap) (newO H (.loop .ready none 0 (keep (minusN (unN (gens assign) (gens body)) ps.toList) env) nt ps assign body))
        (fun e H' => match e with
          | .ret _ => rangeEnd (Pol.pos H) H' fun x H'' => Q x env H''
          | .panic v => Q (.panic v) [] H')
    | _ => False
  | .exit id, _, Q, env, H => Q (.exit id) env H
  | .scope a, lo, Q, env, H => iwp P nt a lo Q env H
  | .label _, _, Q, env, H => Q .normal env H
  | .ret, _, Q, env, H => Q .ret env H
  | .goto _, _, _, _, _ => False
  | .refuse _, _, _, _, _ => False

/-- One round of a range over a function. -/
def iround (P : Program) (l : Nat) (nt : Nat) (assign body : Code) (env : Env) (H : IHeap) (R : IEnd → IHeap → Prop) : Prop :=
  iwp P nt assign (gens body) (fun e env H => match e with
    | .normal => ∃ fn tm nt' params as_ bd, H[l]? = some (.loop .ready none fn tm nt' params as_ bd) ∧
      iwp P nt body [] (fun e env H' => ∃ st' p' fn tm nt' params as_ bd, H'[l]? = some (.loop st' p' fn tm nt' params as_ bd) ∧
        match e with
        | .normal => R (.ret (.bool true)) (H'.set l (.loop .ready none fn tm nt' params as_ bd))
        | .ret => R (.ret (.bool false)) (H'.set l (.loop .done (some .ret) fn tm nt' params as_ bd))
        | .exit id => R (.ret (.bool false)) (H'.set l (.loop .done (some (.exit id)) fn tm nt' params as_ bd))
        | .panic _ => False) (keep (gens body) env) (H.set l (.loop .busy none fn tm nt' params as_ bd))
    | _ => False) env H

end Ide

/- Worlds and ideal heaps move together: reading, writing, making. -/
set_option linter.unusedVariables false
set_option linter.unusedSimpArgs false
namespace Ide
open Go Go.RowKit
variable [Pol]

theorem get_lt {α : Type} {l : List α} {i : Nat} {x : α} (h : l[i]? = some x) : i < l.length := (List.getElem?_eq_some_iff.1 h).1

theorem addr_add (b o n : Nat) : (⟨b, o, none⟩ : Addr).add n = ⟨b, o + n, none⟩ := by unfold Addr.add; split <;> simp_all

/-! ### a world that keeps its memory -/
theorem Sim.congr {β : Emb} {H : IHeap} {w w' : World} (S : Sim β H w) (hh : w'.heap = w.heap) (hb : Below β.w0.heap.size w w') : Sim β H w' where
  below := S.below.trans hb
  dom := S.dom
  held := S.held
  blk := fun id l h => by rw [hh]; exact S.blk id l h
  obj := fun id l o h1 h2 => (S.obj id l o h1 h2).keep fun _ => by rw [hh]
  inj := S.inj

theorem Step.of_heap {β : Emb} {w w' : World} (hh : w'.heap = w.heap) : Step β w β w' where
  le := Emb.le.refl _
  size := by rw [hh]; exact Nat.le_refl _
  newb := fun id l h => .inl ⟨id, l, h, rfl⟩
  frame := fun k _ _ => by rw [hh]

/-! ### an object is given a place in the machine -/
def Emb.with (β : Emb) (id : Nat) (l : Loc) : Emb := { w0 := β.w0, held := β.held, loc := fun i => if i = id then some l else β.loc i }

theorem Emb.with_le {β : Emb} {id : Nat} (l : Loc) (hn : β.loc id = none) : β.le (β.with id l) := ⟨⟨rfl, rfl⟩, fun i l' h => by
  show (if i = id then some l else β.loc i) = some l'
  by_cases e : i = id
  · subst e; rw [hn] at h; cases h
  · rw [if_neg e]; exact h⟩

theorem Emb.with_self (β : Emb) (id : Nat) (l : Loc) : (β.with id l).loc id = some l := by simp [Emb.with]

theorem Sim.unplaced {β : Emb} {H : IHeap} {w : World} (S : Sim β H w) : β.loc (Pol.pos H) = none ∧ ¬ β.held (Pol.pos H) := by
  refine ⟨?_, fun h => ?_⟩
  · cases h : β.loc (Pol.pos H) with
    | none => rfl
    | some l =>
      rcases Pol.ok H with h1 | h1
      · exact absurd (S.dom _ _ h) (by omega)
      · exact (S.obj _ _ _ h h1).elim
  · obtain ⟨h1, _, h2⟩ := S.held _ h
    rcases Pol.ok H with h3 | h3
    · omega
    · exact h2 h3

theorem Sim.ghost {β : Emb} {H : IHeap} {w : World} (S : Sim β H w) (o : IObj) : Sim β (newO H o) w := by
  have old : ∀ {id l}, β.loc id = some l → (newO H o)[id]? = H[id]? := fun {id l} h => newO_other H o fun e => by rw [e, S.unplaced.1] at h; cases h
  exact {
    below := S.below
    dom := fun id l h => Nat.lt_of_lt_of_le (S.dom id l h) (newO_len H o).1
    held := fun id h => ⟨Nat.lt_of_lt_of_le (S.held id h).1 (newO_len H o).1, (S.held id h).2.1, by rw [newO_other H o fun e => S.unplaced.2 (e ▸ h)]; exact (S.held id h).2.2⟩
    blk := S.blk
    obj := fun id l o' h1 h2 => S.obj id l o' h1 (by rwa [old h1] at h2)
    inj := fun i j l l' o1 o2 h1 h2 h3 h4 => S.inj i j l l' o1 o2 h1 h2 (by rwa [old h1] at h3) (by rwa [old h2] at h4) }

theorem Sim.place {β : Emb} {H : IHeap} {w w' : World} (S : Sim β H w) {id : Nat} {o : IObj} (ho : H[id]? = some o) (hn : β.loc id = none ∧ ¬ β.held id) (l : Loc)
    (hb : Below β.w0.heap.size w w') (hk : ∀ k, k ≠ l.block → k < w.heap.size → w'.heap[k]? = w.heap[k]?)
    (hfree : ∀ j lj oj, β.loc j = some lj → H[j]? = some oj → oj.own = true → lj.block ≠ l.block)
    (hO : ORel (β.with id l).loc β.w0 w' l o) (hlt : l.block < w'.heap.size) (hsz : w.heap.size ≤ w'.heap.size) : Sim (β.with id l) H w' where
  below := S.below.trans hb
  dom := fun i l' h => by
    by_cases e : i = id
    · subst e; exact get_lt ho
    · have : β.loc i = some l' := by simpa [Emb.with, e] using h
      exact S.dom i l' this
  held := fun i h => ⟨(S.held i h).1, by
    have e : i ≠ id := fun e => hn.2 (e ▸ h)
    show (if i = id then some l else β.loc i) = none
    rw [if_neg e]; exact (S.held i h).2.1, (S.held i h).2.2⟩
  blk := fun i l' h => by
    by_cases e : i = id
    · subst e; rw [Emb.with_self] at h; cases h; exact hlt
    · exact Nat.lt_of_lt_of_le (S.blk i l' (by simpa [Emb.with, e] using h)) hsz
  obj := fun i l' o' h1 h2 => by
    by_cases e : i = id
    · subst e
      rw [Emb.with_self] at h1; cases h1
      rw [ho] at h2; cases h2
      exact hO
    · have h1' : β.loc i = some l' := by simpa [Emb.with, e] using h1
      refine ((S.obj i l' o' h1' h2).keep fun hown => ?_).mono (Emb.with_le l hn.1).2
      exact hk _ (hfree i l' o' h1' h2 hown) ((S.obj i l' o' h1' h2).block_lt hown).1
  inj := fun i j l1 l2 o1 o2 h1 h2 h3 h4 h5 h6 he => by
    by_cases e : i = id
    · by_cases e' : j = id
      · rw [e, e']
      · subst e
        rw [Emb.with_self] at h1; cases h1
        have h2' : β.loc j = some l2 := by simpa [Emb.with, e'] using h2
        exact absurd he.symm (hfree j l2 o2 h2' h4 h6)
    · have h1' : β.loc i = some l1 := by simpa [Emb.with, e] using h1
      by_cases e' : j = id
      · subst e'
        rw [Emb.with_self] at h2; cases h2
        exact absurd he (hfree i l1 o1 h1' h3 h5)
      · have h2' : β.loc j = some l2 := by simpa [Emb.with, e'] using h2
        exact S.inj i j l1 l2 o1 o2 h1' h2' h3 h4 h5 h6 he

/-- Blocks of live own objects lie below the world's end. -/
theorem Sim.fresh {β : Emb} {H : IHeap} {w : World} (S : Sim β H w) (j : Nat) (lj : Loc) (oj : IObj) (h1 : β.loc j = some lj) (h2 : H[j]? = some oj) (h3 : oj.own = true) : lj.block ≠ w.heap.size := by
  have := (S.obj j lj oj h1 h2).block_lt h3
  omega

theorem Sim.base_le {β : Emb} {H : IHeap} {w : World} (S : Sim β H w) : β.w0.heap.size ≤ w.heap.size := S.below.size

theorem heap_push_lt (w : World) (o : Obj) (k : Nat) (h : k < w.heap.size) : ({ w with heap := w.heap.push o } : World).heap[k]? = w.heap[k]? := by
  show (w.heap.push o)[k]? = _
  rw [Array.getElem?_push, if_neg (by omega)]
theorem heap_push_self (w : World) (o : Obj) : ({ w with heap := w.heap.push o } : World).heap[w.heap.size]? = some o := by
  show (w.heap.push o)[w.heap.size]? = _
  simp

theorem below_push (w : World) (o : Obj) (B : Nat) (hB : B ≤ w.heap.size) : Below B w { w with heap := w.heap.push o } :=
  ⟨rfl, rfl, rfl, by simp, fun k hk => heap_push_lt w o k (by omega)⟩

/-- An object of the heap that has no place yet gets a new block. -/
theorem Sim.make {β : Emb} {H : IHeap} {w : World} (S : Sim β H w) {id : Nat} {o : IObj} (ho : H[id]? = some o) (hn : β.loc id = none ∧ ¬ β.held id) (x : Obj) (l : Loc) (hl : l.block = w.heap.size)
    (hO : ORel (β.with id l).loc β.w0 { w with heap := w.heap.push x } l o) :
    Step β w (β.with id l) { w with heap := w.heap.push x } ∧ Sim (β.with id l) H { w with heap := w.heap.push x } := by
  refine ⟨⟨Emb.with_le l hn.1, by simp, fun i l' h => ?_, fun k hk _ => heap_push_lt w x k hk⟩, S.place ho hn l (below_push w x _ S.base_le) (fun k _ hk => heap_push_lt w x k hk) (fun j lj oj h1 h2 h3 => by rw [hl]; exact S.fresh j lj oj h1 h2 h3) hO (by simp; omega) (by simp)⟩
  by_cases e : i = id
  · subst e; rw [Emb.with_self] at h; cases h; exact .inr (by omega)
  · exact .inl ⟨i, l', by simpa [Emb.with, e] using h, rfl⟩

/-- New cells. -/
theorem Sim.newCells {β : Emb} {H : IHeap} {w : World} (S : Sim β H w) {id : Nat} {cs : List Value} (ho : H[id]? = some (.cells cs true)) (hn : β.loc id = none ∧ ¬ β.held id) (arr : Array Value) (T : TypeId)
    (vs : List Value) (hv : VsRel β.loc cs vs) (hp : ∀ (i : Nat) (v : Value), vs[i]? = some v → arr[i]? = some v) (hs : cs.length ≤ arr.size) :
    ∃ β', β'.loc id = some ⟨w.heap.size, 0, arr.size, true⟩ ∧ Step β w β' { w with heap := w.heap.push (.cells arr T) } ∧ Sim β' H { w with heap := w.heap.push (.cells arr T) } := by
  refine ⟨β.with id ⟨w.heap.size, 0, arr.size, true⟩, Emb.with_self _ _ _, S.make ho hn _ _ rfl ⟨rfl, S.base_le, arr, T, vs, heap_push_self w _, rfl, by simpa using hs, hv.mono (Emb.with_le _ hn.1).2, fun i v h => by simpa using hp i v h⟩⟩

/-! ### an own object is written -/
theorem Sim.write {β : Emb} {H : IHeap} {w w' : World} (S : Sim β H w) {id : Nat} {l : Loc} {o o' : IObj} (hid : β.loc id = some l) (ho : H[id]? = some o) (hown : o.own = true)
    (hb : Below β.w0.heap.size w w') (hk : ∀ k, k ≠ l.block → w'.heap[k]? = w.heap[k]?) (hO : ORel β.loc β.w0 w' l o') (hsz : w.heap.size ≤ w'.heap.size := by first | (simp; done) | omega) : Sim β (H.set id o') w' where
  below := S.below.trans hb
  dom := fun i l' h => by simpa using S.dom i l' h
  held := fun i h => by
    obtain ⟨h1, h2, h3⟩ := S.held i h
    have e : id ≠ i := fun e => by rw [e, h2] at hid; cases hid
    exact ⟨by simpa using h1, h2, by rw [List.getElem?_set_ne e]; exact h3⟩
  blk := fun i l' h => Nat.lt_of_lt_of_le (S.blk i l' h) hsz
  obj := fun i l' x h1 h2 => by
    by_cases e : id = i
    · subst e
      rw [List.getElem?_set, if_pos rfl, if_pos (get_lt ho)] at h2
      rw [hid] at h1
      cases h1; cases h2; exact hO
    · rw [List.getElem?_set_ne e] at h2
      refine (S.obj i l' x h1 h2).keep fun hx => hk _ fun he => e ?_
      exact S.inj id i l l' o x hid h1 ho h2 hown hx he.symm
  inj := fun i j l1 l2 o1 o2 h1 h2 h3 h4 h5 h6 he => by
    have key : ∀ (a : Nat) (x : IObj), (H.set id o')[a]? = some x → x.own = true → ∃ y, H[a]? = some y ∧ y.own = true := by
      intro a x hx hxo
      by_cases e : id = a
      · exact ⟨o, e ▸ ho, hown⟩
      · rw [List.getElem?_set_ne e] at hx; exact ⟨x, hx, hxo⟩
    obtain ⟨y1, g1, q1⟩ := key i o1 h3 h5
    obtain ⟨y2, g2, q2⟩ := key j o2 h4 h6
    exact S.inj i j l1 l2 y1 y2 h1 h2 g1 g2 q1 q2 he

theorem Step.write {β : Emb} {w w' : World} {id : Nat} {l : Loc} (hid : β.loc id = some l) (hs : w.heap.size ≤ w'.heap.size) (hk : ∀ k, k ≠ l.block → w'.heap[k]? = w.heap[k]?) : Step β w β w' where
  le := Emb.le.refl _
  size := hs
  newb := fun id l h => .inl ⟨id, l, h, rfl⟩
  frame := fun k _ hn => hk k fun e => hn id l hid e.symm

/-! ### cells are read -/
theorem Sim.cell {β : Emb} {H : IHeap} {w : World} (S : Sim β H w) {id off : Nat} {l : Loc} {v : Value} (hid : β.loc id = some l) (h : cellAt H id off = some v) :
    ∃ v', w.cell? ⟨l.block, l.base + off, none⟩ = some v' ∧ VRel β.loc v v' := by
  unfold cellAt at h
  split at h
  · rename_i cs rw hH
    have hO := S.obj id l _ hid hH
    cases rw with
    | true =>
      obtain ⟨_, _, arr, T, vs, h2, _, _, h4, h5⟩ := hO
      obtain ⟨v', g1, g2⟩ := h4.get h
      exact ⟨v', by simp [World.cell?, h2, h5 off v' g1], g2⟩
    | false =>
      obtain ⟨_, hlt, vs, h4, h5⟩ := hO
      obtain ⟨v', g1, g2⟩ := h4.get h
      exact ⟨v', (S.below.cell (p := ⟨l.block, l.base + off, none⟩) hlt).trans (h5 off v' g1), g2⟩
  · cases h

theorem cellsAt_length {H : IHeap} {i o n : Nat} {cs : List Value} (h : cellsAt H i o n = some cs) : cs.length = n := by
  unfold cellsAt at h
  split at h
  · split at h
    · cases h; simp; omega
    · cases h
  · cases h

theorem cellsAt_get {H : IHeap} {i o n : Nat} {cs : List Value} (h : cellsAt H i o n = some cs) {j : Nat} {v : Value} (hj : cs[j]? = some v) : cellAt H i (o + j) = some v := by
  unfold cellsAt at h
  unfold cellAt
  split at h
  · rename_i cs0 rw hH
    split at h
    · cases h
      have hjn : j < n := by have := get_lt hj; simp at this; omega
      rw [List.getElem?_take, if_pos hjn, List.getElem?_drop] at hj
      simpa using hj
    · cases h
  · cases h

/-- A row of cells is read. -/
theorem Sim.loadCells {β : Emb} {H : IHeap} {w : World} (S : Sim β H w) (P : Program) {id off n : Nat} {l : Loc} {cs : List Value} (hid : β.loc id = some l) (h : cellsAt H id off n = some cs) :
    ∃ cs' : List Value, VsRel β.loc cs cs' ∧ (Go.loadCells ⟨l.block, l.base + off, none⟩ n).run P w = .ok cs'.toArray w := by
  have key : ∀ (cs : List Value) (o : Nat), (∀ (j : Nat) (v : Value), cs[j]? = some v → cellAt H id (o + j) = some v) → ∃ cs' : List Value, VsRel β.loc cs cs' ∧ ∀ (j : Nat) (v : Value), cs'[j]? = some v → w.cell? ⟨l.block, l.base + (o + j), none⟩ = some v := by
    intro cs
    induction cs with
    | nil => exact fun o _ => ⟨[], .nil, fun j v h => by simp at h⟩
    | cons c cs ih =>
      intro o hc
      obtain ⟨c', h1, h2⟩ := S.cell hid (hc 0 c rfl)
      obtain ⟨cs', h3, h4⟩ := ih (o + 1) (fun j v hj => by have := hc (j + 1) v (by simpa using hj); rwa [show o + 1 + j = o + (j + 1) by omega])
      refine ⟨c' :: cs', .cons h2 h3, fun j v hj => ?_⟩
      cases j with
      | zero => simp at hj; subst hj; exact h1
      | succ j => have := h4 j v (by simpa using hj); rwa [show o + 1 + j = o + (j + 1) by omega] at this
  obtain ⟨cs', h1, h2⟩ := key cs off (fun j v hj => cellsAt_get h hj)
  refine ⟨cs', h1, ?_⟩
  have hl : cs'.length = n := h1.length.trans (cellsAt_length h)
  rw [← hl]
  exact run_loadCells_list w _ cs' fun j v hj => by rw [addr_add, Nat.add_assoc]; exact h2 j v hj

/-! ### cells are written -/
theorem splice_length {cs vs : List Value} {o : Nat} (h : o + vs.length ≤ cs.length) : (splice cs o vs).length = cs.length := by
  unfold splice; simp; omega

theorem splice_get {cs vs : List Value} {o : Nat} (h : o + vs.length ≤ cs.length) (i : Nat) : (splice cs o vs)[i]? = if i < o then cs[i]? else if i < o + vs.length then vs[i - o]? else cs[i]? := by
  unfold splice
  by_cases h1 : i < o
  · rw [if_pos h1, List.append_assoc, List.getElem?_append_left (by simp; omega), List.getElem?_take, if_pos h1]
  · rw [if_neg h1]
    by_cases h2 : i < o + vs.length
    · rw [if_pos h2, List.append_assoc, List.getElem?_append_right (by simp; omega), List.getElem?_append_left (by simp; omega)]
      congr 1; simp; omega
    · rw [if_neg h2, List.getElem?_append_right (by simp; omega), List.getElem?_drop]
      congr 1; simp; omega

theorem VsRel.splice {L : LMap} {cs cs' vs vs' : List Value} (h : VsRel L cs cs') (hv : VsRel L vs vs') (o : Nat) : VsRel L (splice cs o vs) (splice cs' o vs') := by
  unfold Ide.splice
  rw [hv.length]
  exact ((h.take o).append hv).append (h.drop _)

theorem VRel.oneCell {L : LMap} {v v' : Value} (h : VRel L v v') (h1 : okCell v = true) : v'.oneCell' = true := by
  cases h <;> simp_all [Value.oneCell', anyV, okCell]

theorem VsRel.oneCell {L : LMap} : ∀ {a b : List Value}, VsRel L a b → a.all okCell = true → ∀ v ∈ b, v.oneCell' = true
  | _, _, .nil, _, v, h => by simp at h
  | _, _, .cons hv t, h, v, hm => by
    simp at h
    rcases List.mem_cons.1 hm with rfl | hm
    · exact hv.oneCell h.1
    · exact VsRel.oneCell t (by simpa using h.2) v hm

theorem Sim.storeCells {β : Emb} {H : IHeap} {w : World} (S : Sim β H w) (P : Program) {id off : Nat} {l : Loc} {cs vs vs' : List Value} (hid : β.loc id = some l) (hH : H[id]? = some (.cells cs true))
    (hl : off + vs.length ≤ cs.length) (hv : VsRel β.loc vs vs') (h1 : vs.all okCell = true) :
    ∃ w', (Go.storeCells ⟨l.block, l.base + off, none⟩ vs').run P w = .ok () w' ∧ Step β w β w' ∧ Sim β (H.set id (.cells (splice cs off vs) true)) w' := by
  obtain ⟨hrw, hb, arr, T, xs, h2, h3, hlast, h4, h5⟩ := S.obj id l _ hid hH
  have hxl : xs.length = cs.length := h4.length
  have hst := run_storeCells_at P l.block (l.base + off) T vs' 0 arr w h2 (by rw [hv.length]; omega) (hv.oneCell h1)
  refine ⟨_, hst, Step.write hid (by simp) (fun k hk => setRow_other w _ k _ hk), S.write hid hH rfl (below_setRow (Below.refl _ _) hb _) (fun k hk => setRow_other w _ k _ hk) ?_⟩
  refine ⟨hrw, hb, _, T, splice xs off vs', setRow_heap w _ arr _ T _ h2, ?_, ?_, h4.splice hv off, fun i v hi => ?_⟩
  · have := hv.length; simp; omega
  · rw [splice_length hl]; exact hlast
  · have hvl := hv.length
    have hlen := splice_length (cs := xs) (vs := vs') (o := off) (by omega)
    have hi' := get_lt hi
    rw [splice_get (by omega)] at hi
    have e : ((arr.toList.take (l.base + off + 0) ++ vs' ++ arr.toList.drop (l.base + off + 0 + vs'.length)).toArray)[l.base + i]? = (splice arr.toList (l.base + off) vs')[l.base + i]? := by
      simp [splice]
    rw [e, splice_get (by simp; omega)]
    by_cases c1 : i < off
    · rw [if_pos c1] at hi
      rw [if_pos (by omega)]
      simpa using h5 i v hi
    · rw [if_neg c1] at hi
      rw [if_neg (by omega)]
      by_cases c2 : i < off + vs'.length
      · rw [if_pos c2] at hi
        rw [if_pos (by omega)]
        rwa [show l.base + i - (l.base + off) = i - off by omega]
      · rw [if_neg c2] at hi
        rw [if_neg (by omega)]
        simpa using h5 i v hi

end Ide

/- Each operation of the machine does what its ideal meaning says. -/
set_option linter.unusedVariables false
set_option linter.unusedSimpArgs false
namespace Ide
open Go Go.RowKit
variable [Pol]

/-! ### facts on types -/
section types
variable {P : Program} {w : World} {t : TypeId}
theorem info_of_underlying {d : TypeDesc} (h : P.underlying t = some d) : ∃ i, P.info? t = some i := by
  unfold Program.underlying at h
  split at h <;> first | exact ⟨_, ‹_›⟩ | cases h
theorem run_und {d : TypeDesc} (h : P.underlying t = some d) : (underlying t).run P w = .ok d w := run_underlying h w
theorem run_ti {i : TypeInfo} (h : P.info? t = some i) : (typeInfo t).run P w = .ok i w := by
  unfold typeInfo; simp [h]
theorem run_sz {i : TypeInfo} (h : P.info? t = some i) : (Go.sizeOf t).run P w = .ok i.size w := by
  unfold Go.sizeOf; simp [run_ti h]
theorem run_zero {i : TypeInfo} {v : Value} (h : P.info? t = some i) (hz : i.zero = some v) : (zeroValue t).run P w = .ok v w := by
  unfold zeroValue; simp [run_ti h, hz]
theorem ssz_of {i : TypeInfo} (h : P.info? t = some i) : ssz P t = i.size := by simp [ssz, h]
theorem sby_of {i : TypeInfo} (h : P.info? t = some i) : sby P t = i.bytes := by simp [sby, h]
theorem info_of_ssz (h : ssz P t ≠ 0) : ∃ i, P.info? t = some i := by
  unfold ssz at h
  cases hi : P.info? t with
  | none => simp [hi] at h
  | some i => exact ⟨i, rfl⟩
def aggD : TypeDesc → Bool
  | .struct _ | .array _ _ => true
  | _ => false
theorem run_isAgg {d : TypeDesc} (h : P.underlying t = some d) : (isAgg t).run P w = .ok (aggD d) w := by
  unfold isAgg; simp only [Sem.run_bind, run_und h, Result.andThen_ok]
  cases d <;> rfl
end types

theorem zeroV_spec {P : Program} {t : TypeId} {v : Value} (h : zeroV P t = some v) : ∃ i, P.info? t = some i ∧ i.zero = some v ∧ ground v = true := by
  unfold zeroV at h
  cases hi : P.info? t with
  | none => simp [hi] at h
  | some i =>
    simp only [hi, Option.bind_some] at h
    cases hz : i.zero with
    | none => simp [hz] at h
    | some x =>
      simp only [hz] at h
      cases hg : ground x with
      | false => simp [hg] at h
      | true => simp [hg] at h; subst h; exact ⟨i, rfl, hz, hg⟩

theorem vcells_cells {v : Value} {cs : List Value} (h : vcells v = some cs) : v.cells = ⟨cs⟩ := by
  cases v <;> simp_all [vcells, Value.cells]
  all_goals (first | (subst h; rfl) | skip)

theorem zeroOf_spec {P : Program} {t : TypeId} {cs : List Value} (h : zeroOf P t = some cs) : ∃ i v, P.info? t = some i ∧ i.zero = some v ∧ ground v = true ∧ vcells v = some cs ∧ v.cells = ⟨cs⟩ ∧ ground.groundL cs = true := by
  unfold zeroOf at h
  cases hi : P.info? t with
  | none => simp [hi] at h
  | some i =>
    simp only [hi, Option.bind_some] at h
    cases hz : i.zero with
    | none => simp [hz] at h
    | some x =>
      simp only [hz] at h
      cases hg : ground x with
      | false => simp [hg] at h
      | true =>
        simp only [hg, cond_true] at h
        refine ⟨i, x, rfl, hz, hg, h, vcells_cells h, ?_⟩
        cases x <;> simp_all [vcells, ground, ground.groundA, ground.groundL]
        all_goals (first | (subst h; simp_all [ground, ground.groundL]) | skip)
        rename_i cells
        cases cells with | mk l => simp only at h; subst h; simpa [ground.groundA] using hg

/-- Related values have related cells. -/
theorem VRel.vcells {L : LMap} {v v' : Value} {cs : List Value} (h : VRel L v v') (hc : Ide.vcells v = some cs) : ∃ cs', v'.cells = ⟨cs'⟩ ∧ VsRel L cs cs' := by
  cases h <;> simp only [Ide.vcells, anyV, Option.some.injEq, reduceCtorEq] at hc <;> first
    | (subst hc; exact ⟨_, rfl, ‹_›⟩)
    | (subst hc; exact ⟨[_], rfl, .cons (by constructor <;> assumption) .nil⟩)

/-! ### operands -/
def okOpd (nt : Nat) : Operand → Bool
  | .tmp t => Nat.blt t nt
  | .const v => ground v
  | .global _ => false
  | .func _ => true

theorem iev_rel {L : LMap} {nt : Nat} {env : Env} {a : Act} (hT : TRel L nt env a.tmps) {x : Operand} (h : okOpd nt x = true) : VRel L (iev env x) (a.eval x) := by
  cases x with
  | tmp t => exact hT.2 t (by simpa [okOpd, Nat.blt_eq] using h)
  | const v => exact VRel.of_ground L v h
  | global g => simp [okOpd] at h
  | func f => exact .func .nil .nil

theorem ievs_rel {L : LMap} {nt : Nat} {env : Env} {a : Act} (hT : TRel L nt env a.tmps) : ∀ {xs : List Operand}, xs.all (okOpd nt) = true → VsRel L (xs.map (iev env)) (xs.map a.eval)
  | [], _ => .nil
  | x :: xs, h => by
    have h' : okOpd nt x = true ∧ xs.all (okOpd nt) = true := by simpa using h
    exact .cons (iev_rel hT h'.1) (ievs_rel hT h'.2)

/-! ### what an operation comes to -/
def Fits (β : Emb) (w : World) (K : Value → IHeap → Prop) (r : Result Next) : Prop :=
  ∃ (x : Next) (v' : Value) (w' : World), r = .ok x w' ∧ (x = .value v' ∨ x = .skip ∧ v' = undef) ∧ ∃ (β' : Emb) (H' : IHeap) (v : Value), Step β w β' w' ∧ Sim β' H' w' ∧ VRel β'.loc v v' ∧ K v H'

theorem Fits.same {β : Emb} {H : IHeap} {w : World} {K : Value → IHeap → Prop} {r : Result Next} (S : Sim β H w) {v v' : Value} (hr : r = .ok (.value v') w) (hv : VRel β.loc v v') (hk : K v H) : Fits β w K r :=
  ⟨_, v', w, hr, .inl rfl, β, H, v, Step.refl _ _, S, hv, hk⟩

theorem Fits.val {β β' : Emb} {H' : IHeap} {w w' : World} {K : Value → IHeap → Prop} {r : Result Next} {v v' : Value} (hr : r = .ok (.value v') w') (St : Step β w β' w') (S : Sim β' H' w') (hv : VRel β'.loc v v') (hk : K v H') : Fits β w K r :=
  ⟨_, v', w', hr, .inl rfl, β', H', v, St, S, hv, hk⟩

theorem Fits.skip {β β' : Emb} {H' : IHeap} {w w' : World} {K : Value → IHeap → Prop} {r : Result Next} (hr : r = .ok .skip w') (St : Step β w β' w') (S : Sim β' H' w') (hk : K anyV H') : Fits β w K r :=
  ⟨_, undef, w', hr, .inr ⟨rfl, rfl⟩, β', H', anyV, St, S, .any _, hk⟩

/-- A value of the machine's that is made of an ideal one. -/
def Gives (β : Emb) (w : World) (K : Value → IHeap → Prop) (r : Result Value) : Prop :=
  ∃ (v' : Value) (w' : World), r = .ok v' w' ∧ ∃ (β' : Emb) (H' : IHeap) (v : Value), Step β w β' w' ∧ Sim β' H' w' ∧ VRel β'.loc v v' ∧ K v H'

theorem Gives.same {β : Emb} {H : IHeap} {w : World} {K : Value → IHeap → Prop} {r : Result Value} (S : Sim β H w) {v v' : Value} (hr : r = .ok v' w) (hv : VRel β.loc v v') (hk : K v H) : Gives β w K r :=
  ⟨v', w, hr, β, H, v, Step.refl _ _, S, hv, hk⟩

theorem Gives.fits {β : Emb} {w : World} {K : Value → IHeap → Prop} {P : Program} {s : Sem Value} (h : Gives β w K (s.run P w)) : Fits β w K ((do pure (Next.value (← s)) : Sem Next).run P w) := by
  obtain ⟨v', w', hr, β', H', v, h1, h2, h3, h4⟩ := h
  exact .val (by simp [hr]) h1 h2 h3 h4

/-! ### shapes -/
theorem shaped_sound {d : Option TypeDesc} {v : Value} {K : Value → Prop} (h : shaped d v K) : K v := by
  unfold shaped at h
  split at h <;> (first | (simp only [isI, isB, isS, isP, isL, isM, isA] at h; split at h <;> first | exact h | exact h.elim | skip) | exact h)
  rename_i k _ j n
  cases hb : kbeq j k with
  | false => simp [hb] at h
  | true =>
    have : j = k := by cases j <;> cases k <;> first | rfl | simp [kbeq] at hb
    subst this
    simpa [hb] using h

theorem parts_sound {P : Program} : ∀ {ts : List TypeId} {vs acc : List Value} {K : List Value → Prop}, parts P ts vs acc K → K (acc ++ vs)
  | [], vs, acc, K, h => by
    unfold parts tl at h
    split at h
    · exact h.elim
    · simpa using h
  | t :: ts, vs, acc, K, h => by
    unfold parts hd at h
    split at h
    · have := parts_sound (shaped_sound h)
      simpa using this
    · exact h.elim

theorem result_sound {P : Program} {t : TypeId} {v : Value} {K : Value → Prop} (h : result P t v K) : K v := by
  unfold result at h
  split at h
  · unfold isT at h
    split at h
    · simpa using parts_sound h
    · exact h.elim
  · exact shaped_sound h

theorem pcase_sound {a : Option Addr} {K : Nat → Nat → Prop} (h : pcase a K) : ∃ i o, a = some ⟨i, o, none⟩ ∧ K i o := by
  unfold pcase at h
  split at h
  · exact ⟨_, _, rfl, h⟩
  · exact h.elim

theorem acase_sound {a : Option Addr} {K : Nat → Nat → Nat → Prop} (h : acase a K) : ∃ i o q, a = some ⟨i, o, some q⟩ ∧ K i o q := by
  unfold acase at h
  split at h
  · exact ⟨_, _, _, rfl, h⟩
  · exact h.elim

theorem bcase_sound {b : Bool} {X Y : Prop} (h : bcase b X Y) : (b = true → X) ∧ (b = false → Y) := by
  cases b
  · exact ⟨by simp, fun _ => h⟩
  · exact ⟨fun _ => h, by simp⟩

/-! ### loads -/
theorem load_sound {P : Program} {β : Emb} {H : IHeap} {w : World} (S : Sim β H w) {t : TypeId} {i o : Nat} {l : Loc} (hl : β.loc i = some l) {K : Value → Prop} (h : load P t H i o K) :
    ∃ v v', (loadVar t ⟨l.block, l.base + o, none⟩).run P w = .ok v' w ∧ VRel β.loc v v' ∧ K v ∧ (match v with | .agg ⟨cs⟩ => cellsAt H i o cs.length = some cs | v => cellAt H i o = some v) := by
  have one : ∀ {d : TypeDesc} {v : Value}, P.underlying t = some d → aggD d = false → cellAt H i o = some v → (match v with | .agg _ => False | _ => True) → K v → ∃ v v', (loadVar t ⟨l.block, l.base + o, none⟩).run P w = .ok v' w ∧ VRel β.loc v v' ∧ K v ∧ (match v with | .agg ⟨cs⟩ => cellsAt H i o cs.length = some cs | v => cellAt H i o = some v) := by
    intro d v hd hag hc hna hk
    obtain ⟨v', h1, h2⟩ := S.cell hl hc
    refine ⟨v, v', ?_, h2, hk, ?_⟩
    · unfold loadVar
      simp [run_isAgg hd, hag, h1]
    · cases v <;> first | exact hc | exact hna.elim
  have many : ∀ {d : TypeDesc}, P.underlying t = some d → aggD d = true → ldA H i o (ssz P t) (fun cs => K (.agg ⟨cs⟩)) → ∃ v v', (loadVar t ⟨l.block, l.base + o, none⟩).run P w = .ok v' w ∧ VRel β.loc v v' ∧ K v ∧ (match v with | .agg ⟨cs⟩ => cellsAt H i o cs.length = some cs | v => cellAt H i o = some v) := by
    intro d hd hag ⟨cs, hc, hk⟩
    obtain ⟨inf, hi⟩ := info_of_underlying hd
    obtain ⟨cs', h1, h2⟩ := S.loadCells P hl hc
    refine ⟨.agg ⟨cs⟩, .agg ⟨cs'⟩, ?_, .agg h1, hk, ?_⟩
    · unfold loadVar
      rw [ssz_of hi] at h2
      simp [run_isAgg hd, hag, run_sz hi, h2]
    · simp only; rw [cellsAt_length hc]; exact hc
  unfold load at h
  split at h
  · obtain ⟨n, h1, h2⟩ := h; exact one ‹_› rfl h1 trivial h2
  · obtain ⟨n, h1, h2⟩ := h; exact one ‹_› rfl h1 trivial h2
  · obtain ⟨n, h1, h2⟩ := h; exact one ‹_› rfl h1 trivial h2
  · obtain ⟨n, h1, h2⟩ := h; exact one ‹_› rfl h1 trivial h2
  · obtain ⟨a, n, s, h1, h2⟩ := h; exact one ‹_› rfl h1 trivial h2
  · obtain ⟨n, h1, h2⟩ := h; exact one ‹_› rfl h1 trivial h2
  · exact many ‹_› rfl h
  · exact many ‹_› rfl h
  · rename_i d _ _ _ _ _ _ _ _ hd
    obtain ⟨v, h1, hna, h2⟩ := h
    refine one hd ?_ h1 (by cases v <;> simp_all [noAgg]) h2
    cases d <;> first | rfl | simp_all
  · exact h.elim

end Ide
