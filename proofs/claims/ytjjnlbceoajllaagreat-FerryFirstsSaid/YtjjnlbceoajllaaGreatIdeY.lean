/- A reckoner for the ideal meaning: one operation. -/
import Derived.Test.YtjjnlbceoajllaaGreatIdeX
set_option linter.unusedVariables false
set_option linter.unusedSimpArgs false
namespace Ide
open Go Go.RowKit

section
variable {P : Program} {H : IHeap} {h : XHeap}

def xmapEntry (P : Program) (t : TypeId) (h : XHeap) (m k : Value) : Option (Value × XHeap) :=
  match P.underlying t, m with
  | some (.map kt et), .map (some r) =>
    match zeroV P et, xmapAt h r with
    | some z, some (es, clock) =>
      bif keyOk P kt k then
        match findE P kt k es with
        | some (some e) =>
          bif xshape (P.underlying et) e.val then
            (match h.set r (.map (setVal P kt k e.val es) clock) with | some h' => some (.tuple ⟨[e.val, .int .i64 e.born]⟩, h') | none => none)
          else none
        | some none =>
          (match h.set r (.map (es ++ [{ key := k, val := z, born := clock }]) (clock + 1)) with | some h' => some (.tuple ⟨[z, .int .i64 clock]⟩, h') | none => none)
        | none => none
      else none
    | _, _ => none
  | _, _ => none
theorem xmapEntry_sound (hr : RepH H h) {t : TypeId} {m k : Value} {r : Value × XHeap} (hx : xmapEntry P t h m k = some r) : ∃ H', RepH H' r.2 ∧ ∀ K : Value → IHeap → Prop, K r.1 H' → mapEntry P t H m k K := by
  unfold xmapEntry at hx
  split at hx
  · rename_i kt et r0 hu
    split at hx
    · rename_i z es clock hz hm
      obtain ⟨hb, hx⟩ := bif_some hx
      have hH := xmapAt_sound hr hm
      split at hx
      · rename_i e he
        obtain ⟨hs, hx⟩ := bif_some hx
        split at hx
        · rename_i h' hset
          cases hx
          refine ⟨_, set_rep hr hset, fun K hk => ?_⟩
          unfold mapEntry
          simp only [hu, hz]
          refine ⟨hb, es, clock, hH, ?_⟩
          simp only [he]
          exact xshape_sound hs hk
        · cases hx
      · rename_i he
        split at hx
        · rename_i h' hset
          cases hx
          refine ⟨_, set_rep hr hset, fun K hk => ?_⟩
          unfold mapEntry
          simp only [hu, hz]
          refine ⟨hb, es, clock, hH, ?_⟩
          simp only [he]
          exact hk
        · cases hx
      · cases hx
    · cases hx
  · cases hx

def xentryStore (h : XHeap) (m s v : Value) : Option XHeap :=
  match m, s with
  | .map (some r), .int _ b =>
    match xmapAt h r with
    | some (es, clock) => (match setBorn b v es with | some es' => h.set r (.map es' clock) | none => none)
    | none => none
  | _, _ => none
theorem xentryStore_sound (hr : RepH H h) {m s v : Value} {h' : XHeap} (hx : xentryStore h m s v = some h') : ∃ H', RepH H' h' ∧ ∀ K : IHeap → Prop, K H' → entryStore H m s v K := by
  unfold xentryStore at hx
  split at hx
  · split at hx
    · rename_i es clock hm
      split at hx
      · rename_i es' he
        exact ⟨_, set_rep hr hx, fun K hk => ⟨es, clock, xmapAt_sound hr hm, es', he, hk⟩⟩
      · cases hx
    · cases hx
  · cases hx

def xlen (P : Program) (t : TypeId) (h : XHeap) (v : Value) : Option Value :=
  match P.underlying t, v with
  | some .string, .string s => some (.int .i64 s.size)
  | some (.slice _), .slice _ n _ => some (.int .i64 n)
  | some (.array n _), _ => some (.int .i64 n)
  | some (.pointer a), _ => (match P.underlying a with | some (.array n _) => some (.int .i64 n) | _ => none)
  | some (.map _ _), .map r => (xmapLook h r).map fun es => .int .i64 es.length
  | _, _ => none
theorem xlen_sound (hr : RepH H h) {t : TypeId} {v r : Value} (hx : xlen P t h v = some r) {K : Value → Prop} (hk : K r) : lenOf P t H v K := by
  unfold xlen at hx
  unfold lenOf
  split at hx
  · cases hx; simp only [*]
  · cases hx; simp only [*]
  · cases hx; simp only [*]
  · split at hx
    · cases hx; simp only [*]
    · cases hx
  · obtain ⟨es, h1, rfl⟩ := Option.map_eq_some_iff.1 hx
    simp only [*]
    exact xmapLook_sound hr h1 hk
  · cases hx

def xclear (P : Program) (t : TypeId) (h : XHeap) (v : Value) : Option XHeap :=
  match P.underlying t, v with
  | some (.map _ _), .map none => some h
  | some (.map _ _), .map (some r) => (match xmapAt h r with | some (_, clock) => h.set r (.map [] clock) | none => none)
  | some (.slice e), .slice a n _ =>
    bif Nat.beq n 0 then some h
    else
      (match xac a, zeroOf P e with
      | some (i, o, _), some zs => bif (Nat.beq zs.length (ssz P e) && Nat.ble 1 (ssz P e)) && zs.all okCell then xst h i o (repeatL n zs) else none
      | _, _ => none)
  | _, _ => none
theorem xclear_sound (hr : RepH H h) {t : TypeId} {v : Value} {h' : XHeap} (hx : xclear P t h v = some h') : ∃ H', RepH H' h' ∧ ∀ K : IHeap → Prop, K H' → clearOf P t H v K := by
  unfold xclear at hx
  split at hx
  · rename_i hu
    cases hx
    refine ⟨H, hr, fun K hk => ?_⟩
    unfold clearOf
    simp only [hu]
    exact hk
  · rename_i r hu
    split at hx
    · rename_i es clock hm
      refine ⟨_, set_rep hr hx, fun K hk => ?_⟩
      unfold clearOf
      simp only [hu]
      exact ⟨es, clock, xmapAt_sound hr hm, hk⟩
    · cases hx
  · rename_i e a n m hu
    cases h0 : Nat.beq n 0 with
    | true =>
      rw [h0] at hx
      cases hx
      refine ⟨H, hr, fun K hk => ?_⟩
      unfold clearOf
      simp only [hu, h0]
      exact hk
    | false =>
      rw [h0] at hx
      simp only [cond_false] at hx
      split at hx
      · rename_i i o q zs ha hz
        obtain ⟨hb, hx⟩ := bif_some hx
        obtain ⟨H', g1, g2⟩ := xst_sound hr hx
        refine ⟨H', g1, fun K hk => ?_⟩
        unfold clearOf
        simp only [hu, h0, xac_sound ha]
        show zeros P e n fun zs => stCells H i o zs K
        unfold zeros
        simp only [hz, hb, cond_true]
        exact g2 K hk
      · cases hx
  · cases hx

def xcopy (P : Program) (t : TypeId) (h : XHeap) (x y : Value) : Option (Value × XHeap) :=
  match P.underlying t, x, y with
  | some (.slice e), .slice a n _, .slice b m _ =>
    bif Nat.ble 1 (ssz P e) then
      match xsliceCells h b (min m n) (ssz P e) with
      | some new =>
        bif Nat.beq (min m n) 0 then some (.int .i64 0, h)
        else
          (match xac a with
          | some (i, o, _) => bif new.all okCell then (match xst h i o new with | some h' => some (.int .i64 (min m n : Nat), h') | none => none) else none
          | none => none)
      | none => none
    else none
  | _, _, _ => none
theorem xcopy_sound (hr : RepH H h) {t : TypeId} {x y : Value} {r : Value × XHeap} (hx : xcopy P t h x y = some r) : ∃ H', RepH H' r.2 ∧ ∀ K : Value → IHeap → Prop, K r.1 H' → copyOf P t H x y K := by
  unfold xcopy at hx
  split at hx
  · rename_i e a n c b m c' hu
    obtain ⟨hb, hx⟩ := bif_some hx
    split at hx
    · rename_i new hn
      cases h0 : Nat.beq (min m n) 0 with
      | true =>
        rw [h0] at hx
        cases hx
        refine ⟨H, hr, fun K hk => ?_⟩
        unfold copyOf
        simp only [hu, hb, cond_true]
        refine xsliceCells_sound hr hn ?_
        rw [h0]
        exact hk
      | false =>
        rw [h0] at hx
        simp only [cond_false] at hx
        split at hx
        · rename_i i o q ha
          obtain ⟨hok, hx⟩ := bif_some hx
          split at hx
          · rename_i h' hst
            cases hx
            obtain ⟨H', g1, g2⟩ := xst_sound hr hst
            refine ⟨H', g1, fun K hk => ?_⟩
            unfold copyOf
            simp only [hu, hb, cond_true]
            refine xsliceCells_sound hr hn ?_
            rw [h0, xac_sound ha]
            exact ⟨hok, g2 _ hk⟩
          · cases hx
        · cases hx
    · cases hx
  · cases hx

def xevs (e : XEnv) : List Operand → List Value
  | [] => []
  | x :: l => (match x with | .tmp t => XEnv.lk e t | .const v => v | .global g => .pointer (some ⟨g, 0, none⟩) | .func f => .func (.func f) #[] #[]) :: xevs e l

def xev (e : XEnv) (x : Operand) : Value :=
  match x with
  | .tmp t => XEnv.lk e t
  | .const v => v
  | .global g => .pointer (some ⟨g, 0, none⟩)
  | .func f => .func (.func f) #[] #[]

theorem xev_eq {env : Env} {e : XEnv} (hr : RepE env e) (x : Operand) : iev env x = xev e x := by
  cases x <;> first | exact hr _ | rfl

/-- One operation that calls no function. -/
def xop (P : Program) (o : Oper) (e : XEnv) (h : XHeap) : Option (Value × XHeap) :=
  let pure' (v : Option Value) : Option (Value × XHeap) := match v with | some v => some (v, h) | none => none
  let unit' (h' : Option XHeap) : Option (Value × XHeap) := match h' with | some h' => some (anyV, h') | none => none
  match o.op with
  | .move x => some (xev e x, h)
  | .assign x => some (xev e x, h)
  | .pick c a b => (match xev e c with | .bool c => some (bif c then xev e a else xev e b, h) | _ => none)
  | .alloc t => xalloc P t h
  | .box _ x => xbox (xev e x) h
  | .build t ps => pure' (xbuild P t (ps.toList.map fun p => (p.1, xev e p.2)))
  | .buildSlice t n ps => xbuildSlice P t n (ps.toList.map fun p => (p.1, xev e p.2)) h
  | .load t a => (match xptr (xev e a) with | some (i, f) => pure' (xload P t h i f) | none => none)
  | .store t a x => (match xptr (xev e a) with | some (i, f) => unit' (xstV P t h i f (xev e x)) | none => none)
  | .nilCheck x => (match xptr (xev e x) with | some (i, f) => some (ptrTo i f, h) | none => (match xev e x with | .func f a b => some (.func f a b, h) | _ => none))
  | .binOp op t x y _ => pure' (xbinOp P op t (xev e x) (xev e y))
  | .unOp op _ x => pure' (xunOp op (xev e x))
  | .convert s d x => pure' (xconvert P s d (xev e x))
  | .makeFunc (.func f) first cap => some (.func (.func f) ⟨first.toList.map (xev e)⟩ ⟨cap.toList.map (xev e)⟩, h)
  | .makeMap _ none => (match h.push (.map [] 0) with | some h' => some (.map (some h.n), h') | none => none)
  | .makeSlice t l c => xmakeSlice P t (xev e l) (xev e c) h
  | .slice t x lo hi mx => pure' (xslice P t h (xev e x) (lo.map (xev e)) (hi.map (xev e)) (mx.map (xev e)))
  | .fieldAddr t x f => pure' (xfieldAddr P t (xev e x) f)
  | .field t x f => pure' (xfield P t (xev e x) f)
  | .indexAddr t x i => pure' (xindexAddr P t (xev e x) (xev e i))
  | .index t x i => pure' (xindex P t (xev e x) (xev e i))
  | .lookup t m k ok => pure' (xlookup P t h (xev e m) (xev e k) ok)
  | .mapUpdate t m k v => unit' (xmapUpdate P t h (xev e m) (xev e k) (xev e v))
  | .insert t m k v => unit' (xmapUpdate P t h (xev e m) (xev e k) (xev e v))
  | .mapEntry t m k => xmapEntry P t h (xev e m) (xev e k)
  | .entryStore _ m s v => unit' (xentryStore h (xev e m) (xev e s) (xev e v))
  | .extract x i => pure' (xextract (xev e x) i)
  | .call { callee := .builtin b, args := ⟨as⟩, argTypes := ⟨ts⟩ } =>
    (match b, ts, as with
    | .append, t :: u :: _, x :: y :: _ => (match P.underlying u with | some (.slice _) => xappend P t (xev e x) (xev e y) h | _ => none)
    | .len, t :: _, x :: _ => pure' (xlen P t h (xev e x))
    | .min, _, vs => pure' (xminMax false (vs.map (xev e)))
    | .max, _, vs => pure' (xminMax true (vs.map (xev e)))
    | .delete, t :: _, m :: k :: _ => (match xmapDelete P t h (xev e m) (xev e k) with | some h' => some (.tuple ⟨[]⟩, h') | none => none)
    | .clear, t :: _, x :: _ => (match xclear P t h (xev e x) with | some h' => some (.tuple ⟨[]⟩, h') | none => none)
    | .copy, t :: u :: _, x :: y :: _ => (match P.underlying u with | some (.slice _) => xcopy P t h (xev e x) (xev e y) | _ => none)
    | _, _, _ => none)
  | _ => none

end
end Ide
