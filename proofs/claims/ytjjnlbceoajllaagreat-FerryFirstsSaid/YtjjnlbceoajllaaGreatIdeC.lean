/- The ideal meaning of calls, regions and code. -/
import Derived.Test.YtjjnlbceoajllaaGreatIdeB
set_option linter.unusedVariables false
set_option linter.unusedSimpArgs false
namespace Ide
open Go Go.RowKit

/-! ### maps -/
/-- Equality of two keys; none: they are no keys of the type. -/
def keq (P : Program) (t : TypeId) (x y : Value) : Option Bool :=
  match flat P 10 t, x, y with
  | some l, .agg ⟨xs⟩, .agg ⟨ys⟩ => bif isAggT P t then eqB P l xs ys else none
  | some l, x, y => bif isAggT P t then none else eqB P l [x] [y]
  | none, _, _ => none

/-- The entry of a key; none: there are no keys of the type. -/
def findE (P : Program) (t : TypeId) (k : Value) : List MapEntry → Option (Option MapEntry)
  | [] => some none
  | e :: es =>
    match keq P t k e.key with
    | some true => some (some e)
    | some false => findE P t k es
    | none => none

/-- A key that may be looked for. -/
def keyOk (P : Program) (t : TypeId) (k : Value) : Bool := (keq P t k k).isSome && ground k

def mapAt (H : IHeap) (r : Nat) (K : List MapEntry → Nat → Prop) : Prop := ∃ es clock, H[r]? = some (.map es clock) ∧ K es clock

def zeroV (P : Program) (t : TypeId) : Option Value :=
  match (P.info? t).bind (·.zero) with
  | some v => bif ground v then some v else none
  | none => none

/-- What a map holds for a key. -/
def lookE (P : Program) (t : TypeId) (es : List MapEntry) (k : Value) (d : Option TypeDesc) (z : Value) (K : Value → Bool → Prop) : Prop :=
  match findE P t k es with
  | some (some e) => shaped d e.val fun v => K v true
  | some none => K z false
  | none => False

def mapLook (H : IHeap) (m : Option Nat) (K : List MapEntry → Prop) : Prop :=
  match m with
  | none => K []
  | some r => mapAt H r fun es _ => K es

def okV (ok : Bool) (v : Value) (b : Bool) : Value :=
  match ok with
  | true => .tuple ⟨[v, .bool b]⟩
  | false => v

def lookup (P : Program) (t : TypeId) (H : IHeap) (m k : Value) (ok : Bool) (K : Value → Prop) : Prop :=
  match P.underlying t, m with
  | some (.map kt et), .map r =>
    match zeroV P et with
    | some z => keyOk P kt k = true ∧ mapLook H r fun es => lookE P kt es k (P.underlying et) z fun v b => K (okV ok v b)
    | none => False
  | _, _ => False

def setVal (P : Program) (t : TypeId) (k v : Value) : List MapEntry → List MapEntry
  | [] => []
  | e :: es =>
    match keq P t k e.key with
    | some true => { e with key := k, val := v } :: es
    | _ => e :: setVal P t k v es

/-- m[k] = v -/
def putE (P : Program) (t : TypeId) (es : List MapEntry) (clock : Nat) (k v : Value) (K : List MapEntry → Nat → Prop) : Prop :=
  match findE P t k es with
  | some (some _) => K (setVal P t k v es) clock
  | some none => K (es ++ [{ key := k, val := v, born := clock }]) (clock + 1)
  | none => False

def mapUpdate (P : Program) (t : TypeId) (H : IHeap) (m k v : Value) (K : IHeap → Prop) : Prop :=
  match P.underlying t, m with
  | some (.map kt et), .map (some r) => keyOk P kt k = true ∧ mapAt H r fun es clock => putE P kt es clock k v fun es' c' => K (H.set r (.map es' c'))
  | _, _ => False

def eraseE (P : Program) (t : TypeId) (k : Value) : List MapEntry → List MapEntry
  | [] => []
  | e :: es =>
    match keq P t k e.key with
    | some true => es
    | _ => e :: eraseE P t k es

def mapDelete (P : Program) (t : TypeId) (H : IHeap) (m k : Value) (K : IHeap → Prop) : Prop :=
  match P.underlying t, m with
  | some (.map kt et), .map (some r) => keyOk P kt k = true ∧ mapAt H r fun es clock => (findE P kt k es).isSome = true ∧ K (H.set r (.map (eraseE P kt k es) clock))
  | some (.map kt et), .map none => keyOk P kt k = true ∧ K H
  | _, _ => False

/-- A place in a map for m[k] op= .. -/
def mapEntry (P : Program) (t : TypeId) (H : IHeap) (m k : Value) (K : Value → IHeap → Prop) : Prop :=
  match P.underlying t, m with
  | some (.map kt et), .map (some r) =>
    match zeroV P et with
    | some z => keyOk P kt k = true ∧ mapAt H r fun es clock =>
        match findE P kt k es with
        | none => False
        | some (some e) => shaped (P.underlying et) e.val fun v => K (.tuple ⟨[v, .int .i64 e.born]⟩) (H.set r (.map (setVal P kt k e.val es) clock))
        | some none => K (.tuple ⟨[z, .int .i64 clock]⟩) (H.set r (.map (es ++ [{ key := k, val := z, born := clock }]) (clock + 1)))
    | none => False
  | _, _ => False

def setBorn (b : Int) (v : Value) : List MapEntry → Option (List MapEntry)
  | [] => none
  | e :: es => bif (e.born : Int) == b then some ({ e with val := v } :: es) else (setBorn b v es).map (e :: ·)

def entryStore (H : IHeap) (m s v : Value) (K : IHeap → Prop) : Prop :=
  match m, s with
  | .map (some r), .int _ b => mapAt H r fun es clock => ∃ es', setBorn b v es = some es' ∧ K (H.set r (.map es' clock))
  | _, _ => False

/-! ### what a call comes to -/
inductive IEnd where
  | ret (v : Value)
  | panic (v : Value)

structure Step (β : Emb) (w : World) (β' : Emb) (w' : World) : Prop where
  le : β.le β'
  size : w.heap.size ≤ w'.heap.size
  newb : ∀ id l', β'.loc id = some l' → (∃ id0 l0, β.loc id0 = some l0 ∧ l0.block = l'.block) ∨ w.heap.size ≤ l'.block
  frame : ∀ k, k < w.heap.size → (∀ id l, β.loc id = some l → l.block ≠ k) → w'.heap[k]? = w.heap[k]?

theorem Step.refl (β : Emb) (w : World) : Step β w β w := ⟨Emb.le.refl _, Nat.le_refl _, fun id l h => .inl ⟨id, l, h, rfl⟩, fun _ _ _ => rfl⟩

theorem Step.trans {a b c : Emb} {w w' w'' : World} (h : Step a w b w') (h' : Step b w' c w'') : Step a w c w'' where
  le := h.le.trans h'.le
  size := Nat.le_trans h.size h'.size
  newb := fun id l' hl => by
    rcases h'.newb id l' hl with ⟨i0, l0, h0, e0⟩ | hge
    · rcases h.newb i0 l0 h0 with ⟨i1, l1, h1, e1⟩ | hge
      · exact .inl ⟨i1, l1, h1, e1.trans e0⟩
      · exact .inr (by omega)
    · exact .inr (Nat.le_trans h.size hge)
  frame := fun k hk hn => by
    rw [h'.frame k (Nat.lt_of_lt_of_le hk h.size) ?_, h.frame k hk hn]
    intro id l hl he
    rcases h.newb id l hl with ⟨i0, l0, h0, e0⟩ | hge
    · exact hn i0 l0 h0 (e0.trans he)
    · omega

def Ends (β' : Emb) (H' : IHeap) (R : IEnd → IHeap → Prop) : Ending → Prop
  | .returned v' => ∃ v, VRel β'.loc v v' ∧ R (.ret v) H'
  | .panicked chain => ∃ v v', chain = [{ v := v', recovered := false }] ∧ VRel β'.loc v v' ∧ R (.panic v) H'
  | .outgrown => False

def After (β : Emb) (w : World) (R : IEnd → IHeap → Prop) (e : Ending) (w' : World) : Prop := ∃ β' H', Step β w β' w' ∧ Sim β' H' w' ∧ Ends β' H' R e

theorem Ends.mono {β' : Emb} {H' : IHeap} {R R' : IEnd → IHeap → Prop} {e : Ending} (h : Ends β' H' R e) (hr : ∀ e, R e H' → R' e H') : Ends β' H' R' e := by
  match e, h with
  | .returned v', ⟨v, h1, h2⟩ => exact ⟨v, h1, hr _ h2⟩
  | .panicked chain, ⟨v, v', h1, h2, h3⟩ => exact ⟨v, v', h1, h2, hr _ h3⟩

def callable (P : Program) (f : FuncId) : Bool :=
  match P.funcs[f]? with
  | some fn => !(fn.name == "runtime.NumGoroutine") && fn.body.isSome
  | none => false

def ICalls (P : Program) (f : FuncId) (args : List Value) (H : IHeap) (R : IEnd → IHeap → Prop) : Prop :=
  callable P f = true ∧ ∀ (β : Emb) (w : World) (args' : Array Value), Sim β H w → VsRel β.loc args args'.toList → CallsIn Fence.wide 0 P f args' w (After β w R)

theorem ICalls.mono {P : Program} {f : FuncId} {args : List Value} {H : IHeap} {R R' : IEnd → IHeap → Prop} (h : ICalls P f args H R) (hr : ∀ e H', R e H' → R' e H') : ICalls P f args H R' :=
  ⟨h.1, fun β w args' hs ha => (h.2 β w args' hs ha).mono fun e w' ⟨β', H', h1, h2, h3⟩ => ⟨β', H', h1, h2, h3.mono fun e => hr e H'⟩⟩

def IRound (P : Program) (l : Nat) (fn : FuncId) (env : Env) (nt : Nat) (assign body : Code) (H : IHeap) (R : IEnd → IHeap → Prop) : Prop :=
  ∀ (β : Emb) (w : World) (tmps : Array Value) (ll : Loc), Sim β H w → β.loc l = some ll → TRel β.loc nt env tmps → RoundIn Fence.wide 0 P ll.block fn tmps assign body w (After β w R)

theorem IRound.mono {P : Program} {l : Nat} {fn : FuncId} {env : Env} {nt : Nat} {assign body : Code} {H : IHeap} {R R' : IEnd → IHeap → Prop} (h : IRound P l fn env nt assign body H R) (hr : ∀ e H', R e H' → R' e H') : IRound P l fn env nt assign body H R' :=
  fun β w tmps ll hs hl ht => (h β w tmps ll hs hl ht).mono fun e w' ⟨β', H', h1, h2, h3⟩ => ⟨β', H', h1, h2, h3.mono fun e => hr e H'⟩

def putAll (params : List Tmp) (args : List Value) (e : Env) : Env :=
  match params, args with
  | t :: ts, v :: vs => putAll ts vs ((t, v) :: e)
  | _, _ => e

def IYield (P : Program) (l : Nat) (args : List Value) (H : IHeap) (R : IEnd → IHeap → Prop) : Prop :=
  ∃ st pend fn tm nt params assign body, H[l]? = some (.loop st pend fn tm nt params assign body) ∧ args.length = params.size ∧ params.toList.all (Nat.blt · nt) = true ∧
    ∀ fn, IRound P l fn (putAll params.toList args tm) nt assign body H R

/-- The call of a function value. -/
def icallV (P : Program) (v : Value) (args : List Value) (H : IHeap) (R : IEnd → IHeap → Prop) : Prop :=
  match v with
  | .func (.func g) ⟨first⟩ ⟨cap⟩ => ICalls P g (first ++ args ++ cap) H R
  | .func (.yield l) _ _ => IYield P l args H R
  | _ => False

/-- Behind a call: its value goes on, or its panic. -/
def endK (P : Program) (t : TypeId) (K : Value → IHeap → Prop) (Qp : Value → IHeap → Prop) (e : IEnd) (H : IHeap) : Prop :=
  match e with
  | .ret v => result P t v fun v => K v H
  | .panic v => Qp v H

/-! ### operations -/
def lenOf (P : Program) (t : TypeId) (H : IHeap) (v : Value) (K : Value → Prop) : Prop :=
  match P.underlying t, v with
  | some .string, .string s => K (.int .i64 s.size)
  | some (.slice _), .slice _ n _ => K (.int .i64 n)
  | some (.array n _), _ => K (.int .i64 n)
  | some (.pointer a), _ => match P.underlying a with | some (.array n _) => K (.int .i64 n) | _ => False
  | some (.map _ _), .map r => mapLook H r fun es => K (.int .i64 es.length)
  | _, _ => False

def minMaxGo (mx : Bool) (k : IntKind) : Int → List Value → (Value → Prop) → Prop
  | a, [], K => K (.int k a)
  | a, .int _ b :: r, K => minMaxGo mx k (match mx with | true => if b > a then b else a | false => if b < a then b else a) r K
  | _, _, _ => False

def minMax (mx : Bool) (vs : List Value) (K : Value → Prop) : Prop :=
  match vs with
  | .int k a :: r => minMaxGo mx k a r K
  | _ => False

def zeros (P : Program) (t : TypeId) (n : Nat) (K : List Value → Prop) : Prop :=
  match zeroOf P t with
  | some zs => bif (Nat.beq zs.length (ssz P t) && Nat.ble 1 (ssz P t)) && zs.all okCell then K (repeatL n zs) else False
  | none => False

def clearOf (P : Program) (t : TypeId) (H : IHeap) (v : Value) (K : IHeap → Prop) : Prop :=
  match P.underlying t, v with
  | some (.map _ _), .map none => K H
  | some (.map _ _), .map (some r) => mapAt H r fun _ clock => K (H.set r (.map [] clock))
  | some (.slice e), .slice a n _ =>
    bcase (Nat.beq n 0) (K H) (acase a fun i o _ => zeros P e n fun zs => stCells H i o zs K)
  | _, _ => False

/-- copy(x, y) -/
def copyOf (P : Program) (t : TypeId) (H : IHeap) (x y : Value) (K : Value → IHeap → Prop) : Prop :=
  match P.underlying t, x, y with
  | some (.slice e), .slice a n _, .slice b m _ =>
    bif Nat.ble 1 (ssz P e) then
      sliceCells H b (min m n) (ssz P e) fun new =>
        bcase (Nat.beq (min m n) 0) (K (.int .i64 0) H)
          (acase a fun i o _ => new.all okCell = true ∧ stCells H i o new fun H' => K (.int .i64 (min m n : Nat)) H')
    else False
  | _, _, _ => False

def icallB (P : Program) (b : Builtin) (ts : List TypeId) (args : List Value) (H : IHeap) (K : Value → IHeap → Prop) (Qp : Value → IHeap → Prop) : Prop :=
  match b, ts, args with
  | .append, t :: u :: _, x :: y :: _ =>
    match P.underlying u with
    | some (.slice _) => append P t x y H K
    | _ => False
  | .len, t :: _, x :: _ => lenOf P t H x fun v => K v H
  | .min, _, vs => minMax false vs fun v => K v H
  | .max, _, vs => minMax true vs fun v => K v H
  | .delete, t :: _, m :: k :: _ => mapDelete P t H m k fun H' => K (.tuple ⟨[]⟩) H'
  | .clear, t :: _, x :: _ => clearOf P t H x fun H' => K (.tuple ⟨[]⟩) H'
  | .copy, t :: u :: _, x :: y :: _ =>
    match P.underlying u with
    | some (.slice _) => copyOf P t H x y K
    | _ => False
  | _, _, _ => False

def icall (P : Program) (t : TypeId) (c : Call) (env : Env) (H : IHeap) (K : Value → IHeap → Prop) (Qp : Value → IHeap → Prop) : Prop :=
  match c.callee with
  | .value f => icallV P (iev env f) (c.args.toList.map (iev env)) H (endK P t K Qp)
  | .builtin b => icallB P b c.argTypes.toList (c.args.toList.map (iev env)) H K Qp
  | .invoke .. => False

def pickV (c : Bool) (a b : Value) (K : Value → Prop) : Prop :=
  match a, b with
  | .bool x, .bool y => K (.bool (cond c x y))
  | _, _ => bcase c (K a) (K b)

/-- A store of cells. -/
def stV (P : Program) (t : TypeId) (H : IHeap) (i o : Nat) (v : Value) (K : IHeap → Prop) : Prop :=
  match vcells v with
  | some vs => bif Nat.ble 1 (ssz P t) then (vs.length = ssz P t ∧ vs.all okCell = true) ∧ stCells H i o vs K else False
  | none => False

/-- One step of an iteration over a map: any of what is left may come. -/
def nextOf (H : IHeap) (it : Value) (K : Value → IHeap → Prop) : Prop :=
  match it with
  | .pointer (some ⟨r, 0, none⟩) =>
    ∃ m since seen stepped, H[r]? = some (.mapIter m since seen stepped) ∧
      match m with
      | none => K (.tuple ⟨[.bool false]⟩) H
      | some id => mapAt H id fun es clock =>
          (seen = #[] ∨ es = [] ∨ (es.all (fun e => decide (e.born ≥ stepped))) = false) ∧
          ((es.filter fun e => !seen.contains e.born && decide (e.born < since)) = [] → K (.tuple ⟨[.bool false]⟩) H) ∧
          (∀ e, e ∈ es → seen.contains e.born = false → K (.tuple ⟨[.bool true, e.key, e.val]⟩) (H.set r (.mapIter m since (seen.push e.born) clock)))
  | _ => False

def rangeOf (P : Program) (t : TypeId) (H : IHeap) (m : Value) (K : Value → IHeap → Prop) : Prop :=
  match P.underlying t, m with
  | some (.map _ _), .map none => K (newPtr H) (H ++ [.mapIter none 0 #[] 0])
  | some (.map _ _), .map (some r) => mapAt H r fun _ clock => K (newPtr H) (H ++ [.mapIter (some r) clock #[] clock])
  | _, _ => False

def entryOf (H : IHeap) (it : Value) (K : Value → Prop) : Prop :=
  match it with
  | .pointer (some ⟨r, 0, none⟩) =>
    ∃ id since seen stepped e, H[r]? = some (.mapIter (some id) since seen stepped) ∧ mapAt H id fun es clock =>
      seen.back? = some e ∧ clock = stepped ∧ ∃ x, es.find? (·.born == e) = some x ∧ K (.tuple ⟨[x.key, x.val]⟩)
  | _ => False

def typeAssert (P : Program) (x : Value) (t : TypeId) (ok : Bool) (K : Value → Prop) : Prop :=
  match P.underlying t, zeroV P t, ok, x with
  | some (.interface _), _, _, _ => False
  | some _, some z, true, .nilIface => K (.tuple ⟨[z, .bool false]⟩)
  | some d, some z, true, .iface u v => bcase (Nat.beq u t) (shaped (some d) v fun v => K (.tuple ⟨[v, .bool true]⟩)) (K (.tuple ⟨[z, .bool false]⟩))
  | _, _, _, _ => False

def extractOf (v : Value) (i : Nat) (K : Value → Prop) : Prop :=
  match v with
  | .tuple ⟨vs⟩ => cellOf vs i K
  | _ => False

def iop (P : Program) (o : Oper) (env : Env) (H : IHeap) (K : Value → IHeap → Prop) (Qp : Value → IHeap → Prop) : Prop :=
  match o.op with
  | .move x => K (iev env x) H
  | .assign x => K (iev env x) H
  | .pick c a b =>
    match iev env c with
    | .bool c => pickV c (iev env a) (iev env b) fun v => K v H
    | _ => False
  | .alloc t => alloc P t H K
  | .box t x => box (iev env x) H K
  | .build t ps => build P t (ps.toList.map fun p => (p.1, iev env p.2)) fun v => K v H
  | .buildSlice t n ps => buildSlice P t n (ps.toList.map fun p => (p.1, iev env p.2)) H K
  | .load t a =>
    ptrAt (iev env a) fun i f => load P t H i f fun v => K v H
  | .store t a x =>
    ptrAt (iev env a) fun i f => stV P t H i f (iev env x) fun H' => K anyV H'
  | .nilCheck x =>
    match iev env x with
    | .pointer a => pcase a fun i f => K (ptrTo i f) H
    | .func f a b => K (.func f a b) H
    | _ => False
  | .binOp op t x y _ => binOp P op t (iev env x) (iev env y) fun v => K v H
  | .unOp op _ x => unOp op (iev env x) fun v => K v H
  | .convert s d x => convert P s d (iev env x) fun v => K v H
  | .makeInterface t x =>
    match P.underlying t with
    | some (.interface _) => False
    | some _ => K (.iface t (iev env x)) H
    | none => False
  | .makeFunc (.func f) first cap => K (.func (.func f) ⟨first.toList.map (iev env)⟩ ⟨cap.toList.map (iev env)⟩) H
  | .makeMap _ none => K (.map (some H.length)) (H ++ [.map [] 0])
  | .makeSlice t l c => makeSlice P t (iev env l) (iev env c) H K
  | .slice t x lo hi mx => slice P t H (iev env x) (lo.map (iev env)) (hi.map (iev env)) (mx.map (iev env)) fun v => K v H
  | .fieldAddr t x f => fieldAddr P t (iev env x) f fun v => K v H
  | .field t x f => field P t (iev env x) f fun v => K v H
  | .indexAddr t x i => indexAddr P t (iev env x) (iev env i) fun v => K v H
  | .index t x i => index P t (iev env x) (iev env i) fun v => K v H
  | .lookup t m k ok => lookup P t H (iev env m) (iev env k) ok fun v => K v H
  | .mapUpdate t m k v => mapUpdate P t H (iev env m) (iev env k) (iev env v) fun H' => K anyV H'
  | .insert t m k v => mapUpdate P t H (iev env m) (iev env k) (iev env v) fun H' => K anyV H'
  | .mapEntry t m k => mapEntry P t H (iev env m) (iev env k) K
  | .entryStore _ m s v => entryStore H (iev env m) (iev env s) (iev env v) fun H' => K anyV H'
  | .range t x => rangeOf P t H (iev env x) K
  | .next it false => nextOf H (iev env it) K
  | .entry it => entryOf H (iev env it) fun v => K v H
  | .typeAssert x _ t ok => typeAssert P (iev env x) t ok fun v => K v H
  | .extract x i => extractOf (iev env x) i fun v => K v H
  | .call c => icall P o.type c env H K Qp
  | .panic x =>
    match iev env x with
    | .iface t v => Qp (.iface t v) H
    | _ => False
  | _ => False

/-! ### regions -/
def dstAt (all : List Oper) (j : Nat) : Option Nat := (all[j]?).bind (·.dst)

/-- Is the operation wanted? -/
def guarded (all : List Oper) (g : Option (Nat × Bool)) (env : Env) (Y N : Env → Prop) : Prop :=
  match g with
  | none => Y env
  | some (j, want) =>
    match dstAt all j with
    | none => N env
    | some t =>
      match lk env t with
      | .bool b =>
        bcase b (match want with | true => Y ((t, .bool true) :: env) | false => N ((t, .bool true) :: env))
          (match want with | true => N ((t, .bool false) :: env) | false => Y ((t, .bool false) :: env))
      | .tuple ⟨[]⟩ => N env
      | _ => False

/-- A region in the text's order. -/
def irun (P : Program) (all : List Oper) : List Oper → Env → IHeap → (Env → IHeap → Prop) → (Value → IHeap → Prop) → Prop
  | [], env, H, K, _ => K env H
  | o :: l, env, H, K, Qp =>
    guarded all o.guard env (fun env => iop P o env H (fun v H' => irun P all l (put env o.dst v) H' K Qp) Qp) (fun env => irun P all l (put env o.dst undef) H K Qp)

/-! a region whose order is open -/
inductive OK where
  | pure | reads | makes | acts
  deriving DecidableEq

def kindOf : Op → OK
  | .move _ | .pick .. | .build .. | .nilCheck _ | .binOp .. | .unOp .. | .convert .. | .makeFunc .. | .fieldAddr .. | .indexAddr .. | .extract .. => .pure
  | .slice .. => .pure
  | .load .. | .lookup .. => .reads
  | .alloc _ | .box .. | .buildSlice .. | .makeMap .. | .makeSlice .. => .makes
  | .call { callee := .builtin .len, .. } => .reads
  | .call { callee := .builtin .min, .. } => .pure
  | .call { callee := .builtin .max, .. } => .pure
  | _ => .acts

def isActs (o : Oper) : Bool := match kindOf o.op with | .acts => true | _ => false

/-- What must be done ahead of each operation, as bits. -/
def befores : List Oper → List Nat → List Nat
  | [], acc => acc
  | o :: l, acc => befores l (acc ++ [o.after.toList.foldl (fun s e => bif Region.binds .any e then s ||| 2 ^ e.on ||| acc.getD e.on 0 else s) 0])

def bitsIn (a b : Nat) : Bool := Nat.beq (a &&& b) a

/-- The first operation that may come: what does not act ahead of what acts. -/
def pickOp (all : List Oper) (bs : List Nat) (done : Nat) (acts : Bool) : Nat → List Oper → Option Nat
  | _, [] => none
  | i, o :: l => bif !(done.testBit i) && (isActs o == acts) && bitsIn (bs.getD i 0) done then some i else pickOp all bs done acts (i + 1) l

def canonGo (all : List Oper) (bs : List Nat) : Nat → Nat → List Nat
  | 0, _ => []
  | n + 1, done =>
    match pickOp all bs done false 0 all with
    | some i => i :: canonGo all bs n (done ||| 2 ^ i)
    | none =>
      match pickOp all bs done true 0 all with
      | some i => i :: canonGo all bs n (done ||| 2 ^ i)
      | none => []

def canon (all : List Oper) : List Nat := canonGo all (befores all []) all.length 0

/-- What was read, or made, and must be so still behind what acts beside it. -/
abbrev Watch := List (Nat × (IHeap → Prop))

def reload (a v : Value) (H : IHeap) : Prop :=
  match a, v with
  | .pointer (some ⟨i, o, none⟩), .agg ⟨cs⟩ => cellsAt H i o cs.length = some cs
  | .pointer (some ⟨i, o, none⟩), v => cellAt H i o = some v
  | _, _ => False

def remap (m : Value) (H H' : IHeap) : Prop :=
  match m with
  | .map (some r) => ∃ es c, H[r]? = some (.map es c) ∧ H'[r]? = some (.map es c)
  | .map none => True
  | .string _ => True
  | .slice .. => True
  | _ => False

/-- A block that is sliced is of the same length still. -/
def rearr (x : Value) (H H' : IHeap) : Prop :=
  match x with
  | .pointer (some ⟨b, _, none⟩) => ∃ cs cs', H[b]? = some (.cells cs true) ∧ H'[b]? = some (.cells cs' true) ∧ cs'.length = cs.length
  | _ => True

def watchOf (i : Nat) (o : Oper) (env : Env) (v : Value) (H H1 : IHeap) : Watch :=
  match o.op with
  | .load _ a => [(i, reload (iev env a) v)]
  | .lookup _ m _ _ => [(i, remap (iev env m) H)]
  | .slice _ x _ _ _ => [(i, rearr (iev env x) H)]
  | .call { args := ⟨x :: _⟩, callee := .builtin .len, .. } => [(i, remap (iev env x) H)]
  | .alloc _ | .box .. | .buildSlice .. | .makeMap .. | .makeSlice .. => [(i, fun H' => ∃ o, H1[H.length]? = some o ∧ H'[H.length]? = some o)]
  | _ => []

def watching (ws : Watch) (bm : Nat) (H : IHeap) (X : Prop) : Prop :=
  match ws with
  | [] => X
  | (k, w) :: r => bif bm.testBit k then watching r bm H X else w H ∧ watching r bm H X

def irunD (P : Program) (all : List Oper) (bs : List Nat) : List Nat → Env → IHeap → Watch → (Env → IHeap → Prop) → (Value → IHeap → Prop) → Prop
  | [], env, H, _, K, _ => K env H
  | i :: l, env, H, ws, K, Qp =>
    match all[i]? with
    | none => False
    | some o =>
      guarded all o.guard env
        (fun env => iop P o env H (fun v H' =>
          bif isActs o then watching ws (bs.getD i 0) H' (irunD P all bs l (put env o.dst v) H' ws K Qp)
          else irunD P all bs l (put env o.dst v) H' (watchOf i o env v H H' ++ ws) K Qp) Qp)
        (fun env => irunD P all bs l (put env o.dst undef) H ws K Qp)

/-! ### code -/
inductive IExit where
  | normal
  | exit (id : Nat)
  | ret
  | panic (v : Value)

def thn (next : Env → IHeap → Prop) (Q : IExit → Env → IHeap → Prop) : IExit → Env → IHeap → Prop
  | .normal, env, H => next env H
  | e, env, H => Q e env H

def inB (id : Nat) (Q : IExit → Env → IHeap → Prop) : IExit → Env → IHeap → Prop
  | .exit i, env, H => bif Nat.beq i id then Q .normal env H else Q (.exit i) env H
  | e, env, H => Q e env H

def memN (t : Nat) : List Nat → Bool
  | [] => false
  | x :: l => bif Nat.beq x t then true else memN t l

def insN (t : Nat) : List Nat → List Nat
  | [] => [t]
  | x :: l => bif Nat.beq x t then x :: l else bif Nat.ble t x then t :: x :: l else x :: insN t l

def unN (a b : List Nat) : List Nat := b.foldl (fun l t => insN t l) a
def minusN (a b : List Nat) : List Nat := a.filter fun t => !memN t b

def tmpsOf : List Operand → List Nat
  | [] => []
  | .tmp t :: l => insN t (tmpsOf l)
  | _ :: l => tmpsOf l

def genOps : List Oper → List Nat → List Nat → List Nat
  | [], _, acc => acc
  | o :: l, def_, acc => genOps l (match o.dst, o.guard with | some t, none => insN t def_ | _, _ => def_) (unN acc (minusN (tmpsOf o.op.operands.toList) def_))

def defOps : List Oper → List Nat → List Nat
  | [], acc => acc
  | o :: l, acc => defOps l (match o.dst with | some t => insN t acc | none => acc)

/-- The temporaries that code defines for certain. -/
def defs : Code → List Nat
  | .region _ ops _ => defOps ops.toList []
  | .seq a b => unN (defs a) (defs b)
  | .cond _ a b => (defs a).filter fun t => memN t (defs b)
  | _ => []

/-- The temporaries that code reads ahead of defining them (or more). -/
def gens : Code → List Nat
  | .region _ ops _ => genOps ops.toList [] []
  | .seq a b => unN (gens a) (minusN (gens b) (defs a))
  | .cond c a b => unN (tmpsOf [c]) (unN (gens a) (gens b))
  | .block _ a => gens a
  | .loop a => gens a
  | .scope a => gens a
  | .rangeFunc g ps a b => unN (tmpsOf [g]) (minusN (unN (gens a) (minusN (gens b) (defs a))) ps.toList)
  | _ => []

def live (c : Code) (lo : List Nat) : List Nat := unN (gens c) (minusN lo (defs c))

/-- The end of a range over a function: the loop's record tells how to go on. -/
def rangeEnd (l : Nat) (H : IHeap) (Q : IExit → IHeap → Prop) : Prop :=
  ∃ st pend fn tm nt params assign body, H[l]? = some (.loop st pend fn tm nt params assign body) ∧ st ≠ .busy ∧
    match pend with
    | none => Q .normal (H.set l (.loop .exhausted pend fn tm nt params assign body))
    | some .ret => Q .ret (H.set l (.loop .exhausted pend fn tm nt params assign body))
    | some (.exit id) => Q (.exit id) (H.set l (.loop .exhausted pend fn tm nt params assign body))
    | _ => False

def iwp (P : Program) (nt : Nat) : Code → List Nat → (IExit → Env → IHeap → Prop) → Env → IHeap → Prop
  | .skip, _, Q, env, H => Q .normal env H
  | .region _ ops false, _, Q, env, H => irun P ops.toList ops.toList env H (Q .normal) (fun v => Q (.panic v) [])
  | .region _ ops true, _, Q, env, H => irunD P ops.toList (befores ops.toList []) (canon ops.toList) env H [] (Q .normal) (fun v => Q (.panic v) [])
  | .seq a b, lo, Q, env, H => iwp P nt a (live b lo) (thn (fun env H => iwp P nt b lo Q (keep (live b lo) env) H) Q) env H
  | .cond c a b, lo, Q, env, H =>
    match iev env c with
    | .bool t => bcase t (iwp P nt a lo Q env H) (iwp P nt b lo Q env H)
    | _ => False
  | .block id a, lo, Q, env, H => iwp P nt a lo (inB id Q) env H
  | .loop a, lo, Q, env, H =>
    ∀ X : Env → IHeap → Prop, (∀ env H, iwp P nt a (live a lo) (thn (fun env H => X (keep (live (.loop a) lo) env) H) Q) env H → X env H) → X (keep (live (.loop a) lo) env) H
  | .rangeFunc g ps assign body, lo, Q, env, H =>
    match iev env g with
    | .func (.func gf) ⟨first⟩ ⟨cap⟩ =>
      ICalls P gf (first ++ [.func (.yield H.length) #[] #[]] ++ cap) (H ++ [.loop .ready none 0 (keep (minusN (unN (gens assign) (gens body)) ps.toList) env) nt ps assign body])
        (fun e H' => match e with
          | .ret _ => rangeEnd H.length H' fun x H'' => Q x env H''
          | .panic v => Q (.panic v) [] H')
    | _ => False
  | .exit id, _, Q, env, H => Q (.exit id) env H
  | .scope a, lo, Q, env, H => iwp P nt a lo Q env H
  | .label _, _, Q, env, H => Q .normal env H
  | .ret, _, Q, env, H => Q .ret env H
  | .goto _, _, _, _, _ => False
  | .refuse _, _, _, _, _ => False

/-- One round of a range over a function. -/
def iround (P : Program) (l : Nat) (nt : Nat) (assign body : Code) (env : Env) (H : IHeap) (R : IEnd → IHeap → Prop) : Prop :=
  iwp P nt assign (gens body) (fun e env H => match e with
    | .normal => ∃ fn tm nt' params as_ bd, H[l]? = some (.loop .ready none fn tm nt' params as_ bd) ∧
      iwp P nt body [] (fun e env H' => ∃ st' p' fn tm nt' params as_ bd, H'[l]? = some (.loop st' p' fn tm nt' params as_ bd) ∧
        match e with
        | .normal => R (.ret (.bool true)) (H'.set l (.loop .ready none fn tm nt' params as_ bd))
        | .ret => R (.ret (.bool false)) (H'.set l (.loop .done (some .ret) fn tm nt' params as_ bd))
        | .exit id => R (.ret (.bool false)) (H'.set l (.loop .done (some (.exit id)) fn tm nt' params as_ bd))
        | .panic _ => False) (keep (gens body) env) (H.set l (.loop .busy none fn tm nt' params as_ bd))
    | _ => False) env H

end Ide
