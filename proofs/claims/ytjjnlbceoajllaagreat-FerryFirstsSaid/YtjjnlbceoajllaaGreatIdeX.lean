/- A reckoner for the ideal meaning: append, maps, builtins. -/
import Derived.Test.YtjjnlbceoajllaaGreatIdeW
set_option linter.unusedVariables false
set_option linter.unusedSimpArgs false
namespace Ide
open Go Go.RowKit

section
variable {P : Program} {H : IHeap} {h : XHeap}

def xsliceCells (h : XHeap) (a : Option Addr) (n sz : Nat) : Option (List Value) :=
  match a with
  | none => bif Nat.beq n 0 then some [] else none
  | some ⟨i, o, some _⟩ => xcells h i o (n * sz)
  | _ => none
theorem xsliceCells_sound (hr : RepH H h) {a : Option Addr} {n sz : Nat} {r : List Value} (hx : xsliceCells h a n sz = some r) {K : List Value → Prop} (hk : K r) : sliceCells H a n sz K := by
  unfold xsliceCells at hx
  unfold sliceCells
  split at hx
  · obtain ⟨hb, hx⟩ := bif_some hx
    cases hx
    exact ⟨Nat.eq_of_beq_eq_true hb, hk⟩
  · exact ⟨r, xcells_sound hr hx, hk⟩
  · cases hx

def xappended (h : XHeap) (a : Option Addr) (n c m sz : Nat) (old new : List Value) : Option (Value × XHeap) :=
  bif Nat.beq m 0 then some (.slice a n c, h)
  else
    match a with
    | none => xrow h (old ++ new) (2 * sz) (n + m)
    | some ⟨i, o, some q⟩ =>
      bif Nat.beq (q / 2) sz && new.all okCell then
        bif Nat.ble (n + m) c then
          match xst h i (o + n * sz) new with
          | some h' => some (.slice (some ⟨i, o, some q⟩) (n + m) c, h')
          | none => none
        else
          bif Nat.beq (q % 2) 1 then xrow h (old ++ new) (2 * sz) (n + m)
          else
            match h.t.get i with
            | some (.cells _ true) =>
              match h.set i .dead with
              | some h' => xrow h' (old ++ new) (2 * sz) (n + m)
              | none => none
            | _ => none
      else none
    | _ => none

theorem xappended_sound (hr : RepH H h) {a : Option Addr} {n c m sz : Nat} {old new : List Value} {r : Value × XHeap} (hx : xappended h a n c m sz old new = some r) :
    ∃ H', RepH H' r.2 ∧ ∀ K : Value → IHeap → Prop, K r.1 H' → appended H a n c m sz old new K := by
  unfold xappended at hx
  unfold appended
  cases hm : Nat.beq m 0 with
  | true =>
    rw [hm] at hx
    cases hx
    exact ⟨H, hr, fun K hk => hk⟩
  | false =>
    rw [hm] at hx
    simp only [cond_false] at hx
    show ∃ H', RepH H' r.2 ∧ ∀ K : Value → IHeap → Prop, K r.1 H' → _
    split at hx
    · obtain ⟨h1, h2⟩ := xrow_sound hr hx
      exact ⟨_, h1, fun K hk => by rw [h2] at hk; exact hk⟩
    · rename_i i o q
      obtain ⟨hb, hx⟩ := bif_some hx
      simp only [Bool.and_eq_true] at hb
      have hq : q / 2 = sz ∧ new.all okCell = true := ⟨Nat.eq_of_beq_eq_true hb.1, hb.2⟩
      cases hfit : Nat.ble (n + m) c with
      | true =>
        rw [hfit] at hx
        simp only [cond_true] at hx
        split at hx
        · rename_i h' hst
          cases hx
          obtain ⟨H', g1, g2⟩ := xst_sound hr hst
          have := Nat.le_of_ble_eq_true hfit
          exact ⟨H', g1, fun K hk => ⟨hq, fun _ => g2 _ hk, fun hlt => by omega⟩⟩
        · cases hx
      | false =>
        rw [hfit] at hx
        simp only [cond_false] at hx
        have hlt : ¬ n + m ≤ c := fun hle => by rw [Nat.ble_eq_true_of_le hle] at hfit; cases hfit
        cases hodd : Nat.beq (q % 2) 1 with
        | true =>
          rw [hodd] at hx
          obtain ⟨h1, h2⟩ := xrow_sound hr hx
          exact ⟨_, h1, fun K hk => ⟨hq, fun h => (hlt h).elim, fun _ => by rw [h2] at hk; rw [hodd]; exact hk⟩⟩
        | false =>
          rw [hodd] at hx
          simp only [cond_false] at hx
          split at hx
          · rename_i cs hc
            split at hx
            · rename_i h' hs
              obtain ⟨h1, h2⟩ := xrow_sound (set_rep hr hs) hx
              refine ⟨_, h1, fun K hk => ⟨hq, fun h => (hlt h).elim, fun _ => ?_⟩⟩
              rw [h2] at hk
              rw [hodd]
              refine ⟨⟨cs, (hr.2 i).trans hc⟩, ?_⟩
              simpa [newSlice] using hk
            · cases hx
          · cases hx
    · cases hx

def xappend (P : Program) (t : TypeId) (x y : Value) (h : XHeap) : Option (Value × XHeap) :=
  match P.underlying t, x, y with
  | some (.slice e), .slice a n c, .slice b m _ =>
    bif rowOk P e && Nat.ble ((n + m) * sby P e) 70368744177664 && Nat.ble (n + m) 70368744177664 then
      match xsliceCells h a n (ssz P e), xsliceCells h b m (ssz P e) with
      | some old, some new => xappended h a n c m (ssz P e) old new
      | _, _ => none
    else none
  | _, _, _ => none
theorem xappend_sound (hr : RepH H h) {t : TypeId} {x y : Value} {r : Value × XHeap} (hx : xappend P t x y h = some r) : ∃ H', RepH H' r.2 ∧ ∀ K : Value → IHeap → Prop, K r.1 H' → append P t x y H K := by
  unfold xappend at hx
  split at hx
  · rename_i e a n c b m c' hu
    obtain ⟨hb, hx⟩ := bif_some hx
    simp only [Bool.and_eq_true] at hb
    split at hx
    · rename_i old new ho hn
      obtain ⟨H', h1, h2⟩ := xappended_sound hr hx
      refine ⟨H', h1, fun K hk => ?_⟩
      unfold append
      simp only [hu, hb.1.1, cond_true]
      exact ⟨⟨Nat.le_of_ble_eq_true hb.1.2, Nat.le_of_ble_eq_true hb.2⟩, xsliceCells_sound hr ho (xsliceCells_sound hr hn (h2 K hk))⟩
    · cases hx
  · cases hx

/-! ### maps -/
def xmapAt (h : XHeap) (r : Nat) : Option (List MapEntry × Nat) :=
  match h.t.get r with
  | some (.map es c) => some (es, c)
  | _ => none
theorem xmapAt_sound (hr : RepH H h) {r : Nat} {p : List MapEntry × Nat} (hx : xmapAt h r = some p) : H[r]? = some (.map p.1 p.2) := by
  unfold xmapAt at hx
  split at hx
  · rename_i es c hc
    cases hx
    exact (hr.2 r).trans hc
  · cases hx

def xmapLook (h : XHeap) (m : Option Nat) : Option (List MapEntry) :=
  match m with
  | none => some []
  | some r => (xmapAt h r).map (·.1)
theorem xmapLook_sound (hr : RepH H h) {m : Option Nat} {es : List MapEntry} (hx : xmapLook h m = some es) {K : List MapEntry → Prop} (hk : K es) : mapLook H m K := by
  unfold xmapLook at hx
  unfold mapLook
  split at hx
  · cases hx; exact hk
  · obtain ⟨p, h1, rfl⟩ := Option.map_eq_some_iff.1 hx
    exact ⟨p.1, p.2, xmapAt_sound hr h1, hk⟩

def xlookup (P : Program) (t : TypeId) (h : XHeap) (m k : Value) (ok : Bool) : Option Value :=
  match P.underlying t, m with
  | some (.map kt et), .map r =>
    match zeroV P et, xmapLook h r with
    | some z, some es =>
      bif keyOk P kt k then
        match findE P kt k es with
        | some (some e) => bif xshape (P.underlying et) e.val then some (okV ok e.val true) else none
        | some none => some (okV ok z false)
        | none => none
      else none
    | _, _ => none
  | _, _ => none
theorem xlookup_sound (hr : RepH H h) {t : TypeId} {m k r : Value} {ok : Bool} (hx : xlookup P t h m k ok = some r) {K : Value → Prop} (hk : K r) : lookup P t H m k ok K := by
  unfold xlookup at hx
  split at hx
  · rename_i kt et r0 hu
    split at hx
    · rename_i z es hz hes
      obtain ⟨hb, hx⟩ := bif_some hx
      unfold lookup
      simp only [hu, hz]
      refine ⟨hb, xmapLook_sound hr hes ?_⟩
      unfold lookE
      split at hx
      · rename_i e he
        obtain ⟨hs, hx⟩ := bif_some hx
        cases hx
        simp only [he]
        exact xshape_sound hs hk
      · rename_i he
        cases hx
        simp only [he]
        exact hk
      · cases hx
    · cases hx
  · cases hx

def xmapUpdate (P : Program) (t : TypeId) (h : XHeap) (m k v : Value) : Option XHeap :=
  match P.underlying t, m with
  | some (.map kt et), .map (some r) =>
    match xmapAt h r with
    | some (es, clock) =>
      bif keyOk P kt k then
        match findE P kt k es with
        | some (some _) => h.set r (.map (setVal P kt k v es) clock)
        | some none => h.set r (.map (es ++ [{ key := k, val := v, born := clock }]) (clock + 1))
        | none => none
      else none
    | none => none
  | _, _ => none
theorem xmapUpdate_sound (hr : RepH H h) {t : TypeId} {m k v : Value} {h' : XHeap} (hx : xmapUpdate P t h m k v = some h') : ∃ H', RepH H' h' ∧ ∀ K : IHeap → Prop, K H' → mapUpdate P t H m k v K := by
  unfold xmapUpdate at hx
  split at hx
  · rename_i kt et r hu
    split at hx
    · rename_i es clock hm
      obtain ⟨hb, hx⟩ := bif_some hx
      have hH := xmapAt_sound hr hm
      split at hx
      · rename_i e he
        refine ⟨_, set_rep hr hx, fun K hk => ?_⟩
        unfold mapUpdate
        simp only [hu]
        refine ⟨hb, es, clock, hH, ?_⟩
        unfold putE
        simp only [he]
        exact hk
      · rename_i he
        refine ⟨_, set_rep hr hx, fun K hk => ?_⟩
        unfold mapUpdate
        simp only [hu]
        refine ⟨hb, es, clock, hH, ?_⟩
        unfold putE
        simp only [he]
        exact hk
      · cases hx
    · cases hx
  · cases hx

def xmapDelete (P : Program) (t : TypeId) (h : XHeap) (m k : Value) : Option XHeap :=
  match P.underlying t, m with
  | some (.map kt et), .map (some r) =>
    match xmapAt h r with
    | some (es, clock) => bif keyOk P kt k && (findE P kt k es).isSome then h.set r (.map (eraseE P kt k es) clock) else none
    | none => none
  | some (.map kt et), .map none => bif keyOk P kt k then some h else none
  | _, _ => none
theorem xmapDelete_sound (hr : RepH H h) {t : TypeId} {m k : Value} {h' : XHeap} (hx : xmapDelete P t h m k = some h') : ∃ H', RepH H' h' ∧ ∀ K : IHeap → Prop, K H' → mapDelete P t H m k K := by
  unfold xmapDelete at hx
  split at hx
  · rename_i kt et r hu
    split at hx
    · rename_i es clock hm
      obtain ⟨hb, hx⟩ := bif_some hx
      simp only [Bool.and_eq_true] at hb
      refine ⟨_, set_rep hr hx, fun K hk => ?_⟩
      unfold mapDelete
      simp only [hu]
      exact ⟨hb.1, es, clock, xmapAt_sound hr hm, hb.2, hk⟩
    · cases hx
  · rename_i kt et hu
    obtain ⟨hb, hx⟩ := bif_some hx
    cases hx
    refine ⟨H, hr, fun K hk => ?_⟩
    unfold mapDelete
    simp only [hu]
    exact ⟨hb, hk⟩
  · cases hx

end
end Ide
