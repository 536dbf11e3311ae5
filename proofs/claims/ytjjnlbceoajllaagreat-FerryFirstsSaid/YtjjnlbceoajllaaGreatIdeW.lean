/- A reckoner for the ideal meaning: operations on memory. -/
import Derived.Test.YtjjnlbceoajllaaGreatIdeV
set_option linter.unusedVariables false
set_option linter.unusedSimpArgs false
namespace Ide
open Go Go.RowKit

section
variable {P : Program} {H : IHeap} {h : XHeap}

def xcell (h : XHeap) (i o : Nat) : Option Value :=
  match h.t.get i with
  | some (.cells cs _) => cs[o]?
  | _ => none
theorem xcell_eq (hr : RepH H h) (i o : Nat) : cellAt H i o = xcell h i o := by
  unfold cellAt xcell
  rw [hr.2 i]
  rfl

def xcells (h : XHeap) (i o n : Nat) : Option (List Value) :=
  match h.t.get i with
  | some (.cells cs _) => bif Nat.ble (o + n) cs.length then some ((cs.drop o).take n) else none
  | _ => none
theorem xcells_sound (hr : RepH H h) {i o n : Nat} {cs : List Value} (hx : xcells h i o n = some cs) : cellsAt H i o n = some cs := by
  unfold xcells at hx
  unfold cellsAt
  rw [hr.2 i]
  split at hx
  · rename_i cs0 rw hc
    obtain ⟨hb, hx⟩ := bif_some hx
    simp only [hc]
    rw [if_pos (Nat.le_of_ble_eq_true hb)]
    exact hx
  · cases hx

def xload (P : Program) (t : TypeId) (h : XHeap) (i o : Nat) : Option Value :=
  match P.underlying t with
  | some (.struct _) => (xcells h i o (ssz P t)).map fun cs => .agg ⟨cs⟩
  | some (.array _ _) => (xcells h i o (ssz P t)).map fun cs => .agg ⟨cs⟩
  | some d => (match xcell h i o with | some v => bif xshape (some d) v && noAgg v then some v else none | none => none)
  | none => none

theorem xload_sound (hr : RepH H h) {t : TypeId} {i o : Nat} {r : Value} (hx : xload P t h i o = some r) {K : Value → Prop} (hk : K r) : load P t H i o K := by
  unfold xload at hx
  split at hx
  · rename_i fs hu
    obtain ⟨cs, h1, rfl⟩ := Option.map_eq_some_iff.1 hx
    unfold load
    simp only [hu]
    exact ⟨cs, xcells_sound hr h1, hk⟩
  · rename_i n e hu
    obtain ⟨cs, h1, rfl⟩ := Option.map_eq_some_iff.1 hx
    unfold load
    simp only [hu]
    exact ⟨cs, xcells_sound hr h1, hk⟩
  · rename_i d h1 h2 hu
    split at hx
    · rename_i v hv
      obtain ⟨hb, hx⟩ := bif_some hx
      cases hx
      simp only [Bool.and_eq_true] at hb
      have hc := (xcell_eq hr i o).trans hv
      have hs := hb.1
      unfold xshape at hs
      unfold load
      rw [hu]
      cases d with
      | int k => cases r <;> first | (cases hs; done) | (have e := kbeq_eq hs; subst e; exact ⟨_, hc, hk⟩)
      | bool => cases r <;> first | (cases hs; done) | exact ⟨_, hc, hk⟩
      | string => cases r <;> first | (cases hs; done) | exact ⟨_, hc, hk⟩
      | pointer e => cases r <;> first | (cases hs; done) | exact ⟨_, hc, hk⟩
      | slice e => cases r <;> first | (cases hs; done) | exact ⟨_, _, _, hc, hk⟩
      | map a b => cases r <;> first | (cases hs; done) | exact ⟨_, hc, hk⟩
      | struct fs => exact (h1 _ rfl).elim
      | array n e => exact (h2 _ _ rfl).elim
      | _ => exact ⟨r, hc, hb.2, hk⟩
    · cases hx
  · cases hx

def xst (h : XHeap) (i o : Nat) (vs : List Value) : Option XHeap :=
  match h.t.get i with
  | some (.cells cs true) => bif Nat.ble (o + vs.length) cs.length then h.set i (.cells (splice cs o vs) true) else none
  | _ => none
theorem xst_sound (hr : RepH H h) {i o : Nat} {vs : List Value} {h' : XHeap} (hx : xst h i o vs = some h') : ∃ H', RepH H' h' ∧ ∀ K : IHeap → Prop, K H' → stCells H i o vs K := by
  unfold xst at hx
  split at hx
  · rename_i cs hc
    obtain ⟨hb, hx⟩ := bif_some hx
    exact ⟨_, set_rep hr hx, fun K hk => ⟨cs, (hr.2 i).trans hc, Nat.le_of_ble_eq_true hb, hk⟩⟩
  · cases hx

def xstV (P : Program) (t : TypeId) (h : XHeap) (i o : Nat) (v : Value) : Option XHeap :=
  match vcells v with
  | some vs => bif Nat.ble 1 (ssz P t) && Nat.beq vs.length (ssz P t) && vs.all okCell then xst h i o vs else none
  | none => none
theorem xstV_sound (hr : RepH H h) {t : TypeId} {i o : Nat} {v : Value} {h' : XHeap} (hx : xstV P t h i o v = some h') : ∃ H', RepH H' h' ∧ ∀ K : IHeap → Prop, K H' → stV P t H i o v K := by
  unfold xstV at hx
  split at hx
  · rename_i vs hv
    obtain ⟨hb, hx⟩ := bif_some hx
    simp only [Bool.and_eq_true] at hb
    obtain ⟨H', h1, h2⟩ := xst_sound hr hx
    refine ⟨H', h1, fun K hk => ?_⟩
    unfold stV
    simp only [hv, hb.1.1, cond_true]
    exact ⟨⟨Nat.eq_of_beq_eq_true hb.1.2, hb.2⟩, h2 K hk⟩
  · cases hx

def xnew (h : XHeap) (cs : List Value) : Option (Value × XHeap) :=
  match h.push (.cells cs true) with
  | some h' => some (ptrTo h.n 0, h')
  | none => none
theorem xnew_sound (hr : RepH H h) {cs : List Value} {r : Value × XHeap} (hx : xnew h cs = some r) : RepH (H ++ [.cells cs true]) r.2 ∧ r.1 = newPtr H := by
  unfold xnew at hx
  split at hx
  · rename_i h' hp
    cases hx
    exact ⟨push_rep hr hp, by simp [newPtr, ptrTo, hr.1]⟩
  · cases hx

def xbox (v : Value) (h : XHeap) : Option (Value × XHeap) :=
  match vcells v with
  | some cs => xnew h cs
  | none => none
theorem xbox_sound (hr : RepH H h) {v : Value} {r : Value × XHeap} (hx : xbox v h = some r) : ∃ H', RepH H' r.2 ∧ ∀ K : Value → IHeap → Prop, K r.1 H' → box v H K := by
  unfold xbox at hx
  split at hx
  · rename_i cs hv
    obtain ⟨h1, h2⟩ := xnew_sound hr hx
    refine ⟨_, h1, fun K hk => ?_⟩
    rw [h2] at hk
    unfold vcells at hv
    unfold box
    split at hv <;> first | (cases hv; exact hk) | (cases hv; done)
  · cases hx

def xalloc (P : Program) (t : TypeId) (h : XHeap) : Option (Value × XHeap) :=
  match zeroOf P t with
  | some cs => xnew h cs
  | none => none
theorem xalloc_sound (hr : RepH H h) {t : TypeId} {r : Value × XHeap} (hx : xalloc P t h = some r) : ∃ H', RepH H' r.2 ∧ ∀ K : Value → IHeap → Prop, K r.1 H' → alloc P t H K := by
  unfold xalloc at hx
  split at hx
  · rename_i cs hz
    obtain ⟨h1, h2⟩ := xnew_sound hr hx
    refine ⟨_, h1, fun K hk => ?_⟩
    rw [h2] at hk
    unfold alloc
    rw [hz]
    exact hk
  · cases hx

/-- A new row of cells as a slice. -/
def xrow (h : XHeap) (cs : List Value) (q n : Nat) : Option (Value × XHeap) :=
  match h.push (.cells cs true) with
  | some h' => some (.slice (some ⟨h.n, 0, some q⟩) n n, h')
  | none => none
theorem xrow_sound (hr : RepH H h) {cs : List Value} {q n : Nat} {r : Value × XHeap} (hx : xrow h cs q n = some r) : RepH (H ++ [.cells cs true]) r.2 ∧ r.1 = .slice (some ⟨H.length, 0, some q⟩) n n := by
  unfold xrow at hx
  split at hx
  · rename_i h' hp
    cases hx
    exact ⟨push_rep hr hp, by rw [hr.1]⟩
  · cases hx

def xbuildSlice (P : Program) (t : TypeId) (len : Nat) (ps : List (Nat × Value)) (h : XHeap) : Option (Value × XHeap) :=
  match P.underlying t with
  | some (.slice e) =>
    match zeroOf P e with
    | some zs =>
      bif Nat.beq zs.length (ssz P e) && Nat.ble 1 (ssz P e) && Nat.ble (len * ssz P e) 16777216 then
        (match xfill (fun i => some (i * ssz P e, ssz P e)) (repeatL len zs) ps with
        | some cs => xrow h cs (2 * ssz P e + 1) len
        | none => none)
      else none
    | none => none
  | _ => none
theorem xbuildSlice_sound (hr : RepH H h) {t : TypeId} {len : Nat} {ps : List (Nat × Value)} {r : Value × XHeap} (hx : xbuildSlice P t len ps h = some r) : ∃ H', RepH H' r.2 ∧ ∀ K : Value → IHeap → Prop, K r.1 H' → buildSlice P t len ps H K := by
  unfold xbuildSlice at hx
  split at hx
  · rename_i e hu
    split at hx
    · rename_i zs hz
      obtain ⟨hb, hx⟩ := bif_some hx
      split at hx
      · rename_i cs hf
        obtain ⟨h1, h2⟩ := xrow_sound hr hx
        refine ⟨_, h1, fun K hk => ?_⟩
        rw [h2] at hk
        unfold buildSlice
        simp only [hu, hz, hb, cond_true]
        exact xfill_sound hf hk
      · cases hx
    · cases hx
  · cases hx

def xmakeSlice (P : Program) (t : TypeId) (l c : Value) (h : XHeap) : Option (Value × XHeap) :=
  match P.underlying t, l, c with
  | some (.slice e), .int _ (.ofNat n), .int _ (.ofNat m) =>
    match zeroOf P e with
    | some zs =>
      bif Nat.beq zs.length (ssz P e) && Nat.ble 1 (ssz P e) && Nat.beq n m && Nat.ble (n * sby P e) 281474976710656 && Nat.ble n 281474976710656 then
        xrow h (repeatL n zs) (2 * ssz P e + 1) n
      else none
    | none => none
  | _, _, _ => none
theorem xmakeSlice_sound (hr : RepH H h) {t : TypeId} {l c : Value} {r : Value × XHeap} (hx : xmakeSlice P t l c h = some r) : ∃ H', RepH H' r.2 ∧ ∀ K : Value → IHeap → Prop, K r.1 H' → makeSlice P t l c H K := by
  unfold xmakeSlice at hx
  split at hx
  · rename_i e k n k' m hu
    split at hx
    · rename_i zs hz
      obtain ⟨hb, hx⟩ := bif_some hx
      simp only [Bool.and_eq_true] at hb
      obtain ⟨⟨⟨⟨b1, b2⟩, b3⟩, b4⟩, b5⟩ := hb
      obtain ⟨h1, h2⟩ := xrow_sound hr hx
      refine ⟨_, h1, fun K hk => ?_⟩
      rw [h2] at hk
      have e3 := Nat.eq_of_beq_eq_true b3
      have e4 := Nat.le_of_ble_eq_true b4
      have e5 := Nat.le_of_ble_eq_true b5
      unfold makeSlice
      simp only [hu, hz, b1, b2, Bool.and_self, cond_true]
      refine ⟨by rw [e3], Int.natCast_nonneg _, ?_, ?_, hk⟩
      · show ((n : Int)) * (sby P e : Int) ≤ 281474976710656
        rw [← Int.natCast_mul]
        exact Int.ofNat_le.2 e4
      · show ((n : Int)) ≤ 281474976710656
        exact Int.ofNat_le.2 e5
    · cases hx
  · cases hx

end
end Ide
