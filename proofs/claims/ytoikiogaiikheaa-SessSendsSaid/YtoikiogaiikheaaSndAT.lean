/- The reckoner over variables, for functions over slots: what lies in the caller's heap is asked for by its id. -/
import Derived.Test.YtoikiogaiikheaaSndAS
set_option linter.unusedSectionVars false
set_option linter.unusedVariables false
set_option linter.unusedSimpArgs false
namespace Ide
open Go Go.RowKit

/-- What a text may tell of an operation: that cells of a block are only known by name; what is loaded; that a row has room. -/
inductive Hint where
  | sym
  | val (f : Nat → Value)
  | room

def hintOf : List (Nat × Hint) → Option Nat → Option Hint
  | _, none => none
  | [], some _ => none
  | (u, h) :: r, some t => bif Nat.beq u t then some h else hintOf r (some t)

/-! ### loads -/
def yKs (P : Program) (H : IHeap) (i : Nat) : List TypeId → Nat → (List Value → Prop) → Prop
  | [], _, K => K []
  | t :: ts, o, K =>
    match P.underlying t with
    | some (.int k) => ∃ n, cellAt H i o = some (.int k n) ∧ yKs P H i ts (o + 1) fun vs => K (.int k n :: vs)
    | some .bool => ∃ b, cellAt H i o = some (.bool b) ∧ yKs P H i ts (o + 1) fun vs => K (.bool b :: vs)
    | some .string => ∃ s, cellAt H i o = some (.string s) ∧ yKs P H i ts (o + 1) fun vs => K (.string s :: vs)
    | _ => False

theorem yKs_sound {P : Program} {H : IHeap} {i : Nat} : ∀ (ts : List TypeId) (o : Nat) (K : List Value → Prop), yKs P H i ts o K → ∃ vs, vs.length = ts.length ∧ (∀ j v, vs[j]? = some v → cellAt H i (o + j) = some v) ∧ K vs
  | [], o, K, h => ⟨[], rfl, fun j v h => by simp at h, h⟩
  | t :: ts, o, K, h => by
    have step : ∀ (v : Value), cellAt H i o = some v → yKs P H i ts (o + 1) (fun vs => K (v :: vs)) → ∃ vs, vs.length = (t :: ts).length ∧ (∀ j v, vs[j]? = some v → cellAt H i (o + j) = some v) ∧ K vs := by
      intro v hv hk
      obtain ⟨vs, h1, h2, h3⟩ := yKs_sound ts (o + 1) _ hk
      refine ⟨v :: vs, by simp [h1], fun j u hj => ?_, h3⟩
      cases j with
      | zero => simp at hj; rw [← hj]; exact hv
      | succ j =>
        have := h2 j u (by simpa using hj)
        rw [show o + (j + 1) = o + 1 + j by omega]
        exact this
    simp only [yKs] at h
    split at h
    · obtain ⟨n, h1, h2⟩ := h; exact step _ h1 h2
    · obtain ⟨n, h1, h2⟩ := h; exact step _ h1 h2
    · obtain ⟨n, h1, h2⟩ := h; exact step _ h1 h2
    · exact h.elim

theorem cellsAt_of {H : IHeap} {i o : Nat} {vs : List Value} (hn : 1 ≤ vs.length) (h : ∀ j v, vs[j]? = some v → cellAt H i (o + j) = some v) : cellsAt H i o vs.length = some vs := by
  have h0 := h (vs.length - 1) _ (List.getElem?_eq_getElem (by omega))
  unfold cellAt at h0
  unfold cellsAt
  split at h0
  · rename_i cs rw' hH
    have hlt := (List.getElem?_eq_some_iff.1 h0).1
    rw [if_pos (by omega)]
    congr 1
    refine List.ext_getElem? fun j => ?_
    by_cases hj : j < vs.length
    · have h1 := h j _ (List.getElem?_eq_getElem hj)
      unfold cellAt at h1
      rw [hH] at h1
      have h1 : cs[o + j]? = some vs[j] := h1
      rw [List.getElem?_take, if_pos hj, List.getElem?_drop, h1, List.getElem?_eq_getElem hj]
    · rw [List.getElem?_eq_none (by simp; omega), List.getElem?_eq_none (by omega)]
  · cases h0

/-- A load of what is told. -/
def yval (P : Program) (t : TypeId) (H : IHeap) (i o : Nat) (v : Value) (K : Value → Prop) : Prop :=
  match P.underlying t with
  | some (.struct _) => (match v with | .agg ⟨cs⟩ => bif Nat.beq cs.length (ssz P t) then cellsAt H i o (ssz P t) = some cs ∧ K (.agg ⟨cs⟩) else False | _ => False)
  | some (.array _ _) => (match v with | .agg ⟨cs⟩ => bif Nat.beq cs.length (ssz P t) then cellsAt H i o (ssz P t) = some cs ∧ K (.agg ⟨cs⟩) else False | _ => False)
  | some d => bif noAgg v then cellAt H i o = some v ∧ shaped (some d) v K else False
  | none => False

theorem yval_sound {P : Program} {t : TypeId} {H : IHeap} {i o : Nat} {v : Value} {K : Value → Prop} (h : yval P t H i o v K) : load P t H i o K := by
  unfold yval at h
  unfold load
  generalize P.underlying t = d at h ⊢
  have main : ∀ d : TypeDesc, (bif noAgg v then cellAt H i o = some v ∧ shaped (some d) v K else False) → (cellAt H i o = some v ∧ noAgg v = true ∧ shaped (some d) v K) := fun d h => by
    obtain ⟨h1, h2, h3⟩ := bifF h
    exact ⟨h2, h1, h3⟩
  cases d with
  | none => exact h.elim
  | some d =>
    cases d with
    | struct fs =>
      simp only at h ⊢
      split at h
      · obtain ⟨_, h1, h2⟩ := bifF h; exact ⟨_, h1, h2⟩
      · exact h.elim
    | array n e =>
      simp only at h ⊢
      split at h
      · obtain ⟨_, h1, h2⟩ := bifF h; exact ⟨_, h1, h2⟩
      · exact h.elim
    | int k =>
      obtain ⟨h1, _, h3⟩ := main _ h
      unfold shaped isI at h3
      cases v with
      | int j n =>
        obtain ⟨hb, h3⟩ := bifF h3
        have := kbeq_eq hb
        subst this
        exact ⟨n, h1, h3⟩
      | _ => exact h3.elim
    | bool =>
      obtain ⟨h1, _, h3⟩ := main _ h
      unfold shaped isB at h3
      cases v <;> first | exact ⟨_, h1, h3⟩ | exact h3.elim
    | string =>
      obtain ⟨h1, _, h3⟩ := main _ h
      unfold shaped isS at h3
      cases v <;> first | exact ⟨_, h1, h3⟩ | exact h3.elim
    | pointer e =>
      obtain ⟨h1, _, h3⟩ := main _ h
      unfold shaped isP at h3
      cases v <;> first | exact ⟨_, h1, h3⟩ | exact h3.elim
    | slice e =>
      obtain ⟨h1, _, h3⟩ := main _ h
      unfold shaped isL at h3
      cases v <;> first | exact ⟨_, _, _, h1, h3⟩ | exact h3.elim
    | map k e =>
      obtain ⟨h1, _, h3⟩ := main _ h
      unfold shaped isM at h3
      cases v <;> first | exact ⟨_, h1, h3⟩ | exact h3.elim
    | _ =>
      obtain ⟨h1, h2, h3⟩ := main _ h
      exact ⟨v, h1, h2, h3⟩

def yld (P : Program) (t : TypeId) (H : IHeap) (i o : Nat) (K : Value → Prop) : Prop :=
  match isAggT P t, flat P 10 t with
  | true, some l => bif Nat.ble 1 (ssz P t) && Nat.beq l.length (ssz P t) then yKs P H i l o fun vs => K (.agg ⟨vs⟩) else False
  | _, _ => load P t H i o K

theorem yld_sound {P : Program} {t : TypeId} {H : IHeap} {i o : Nat} {K : Value → Prop} (h : yld P t H i o K) : load P t H i o K := by
  unfold yld at h
  split at h
  · rename_i l ha hf
    obtain ⟨hb, h⟩ := bifF h
    simp only [Bool.and_eq_true] at hb
    obtain ⟨vs, h1, h2, h3⟩ := yKs_sound l o _ h
    have e : vs.length = ssz P t := h1.trans (Nat.eq_of_beq_eq_true hb.2)
    have hc := cellsAt_of (by rw [e]; exact Nat.le_of_ble_eq_true hb.1) h2
    rw [e] at hc
    unfold isAggT at ha
    unfold load
    split at ha
    · rename_i hu; rw [hu]; exact ⟨vs, hc, h3⟩
    · rename_i hu; rw [hu]; exact ⟨vs, hc, h3⟩
    · cases ha
  · exact h

def yload (P : Program) (h : Option Hint) (t : TypeId) (H : IHeap) (i o : Nat) (K : Value → Prop) : Prop :=
  match h with
  | some .sym => sload P true t H i o K
  | some (.val f) => yval P t H i o (f o) K
  | some .room => False
  | none => bif Nat.blt i 64 then sload P false t H i o K else yld P t H i o K

theorem yload_sound {P : Program} {h : Option Hint} {t : TypeId} {H : IHeap} {i o : Nat} {K : Value → Prop} (hh : yload P h t H i o K) : load P t H i o K := by
  unfold yload at hh
  split at hh
  · exact sload_sound hh
  · exact yval_sound hh
  · exact hh.elim
  · cases hb : Nat.blt i 64 with
    | true => rw [hb] at hh; exact sload_sound (hint := false) hh
    | false => rw [hb] at hh; exact yld_sound hh

/-! ### stores -/
def yst (P : Program) (t : TypeId) (H : IHeap) (i o : Nat) (v : Value) (K : IHeap → Prop) : Prop :=
  bif Nat.blt i 64 then sst P t H i o v K
  else
    match vcells v with
    | some vs => bif Nat.ble 1 (ssz P t) && Nat.beq vs.length (ssz P t) && vs.all okCell then stCells H i o vs K else False
    | none => False

theorem yst_sound {P : Program} {t : TypeId} {H : IHeap} {i o : Nat} {v : Value} {K : IHeap → Prop} (h : yst P t H i o v K) : stV P t H i o v K := by
  unfold yst at h
  cases hb : Nat.blt i 64 with
  | true => rw [hb] at h; exact sst_sound h
  | false =>
    rw [hb] at h
    simp only [cond_false] at h
    unfold stV
    split at h
    · rename_i vs hv
      obtain ⟨hc, h⟩ := bifF h
      simp only [Bool.and_eq_true] at hc
      simp only [hv, hc.1.1, cond_true]
      exact ⟨⟨Nat.eq_of_beq_eq_true hc.1.2, hc.2⟩, h⟩
    · exact h.elim

/-! ### append -/
def ycells (H : IHeap) (a : Option Addr) (n sz : Nat) (K : List Value → Prop) : Prop :=
  match a with
  | none => n = 0 ∧ K []
  | some ⟨i, o, some q⟩ => bif Nat.blt i 64 then scells H (some ⟨i, o, some q⟩) n sz K else ∃ cs, cellsAt H i o (n * sz) = some cs ∧ K cs
  | _ => False
theorem ycells_sound {H : IHeap} {a : Option Addr} {n sz : Nat} {K : List Value → Prop} (h : ycells H a n sz K) : sliceCells H a n sz K := by
  unfold ycells at h
  split at h
  · exact h
  · rename_i i o q
    cases hb : Nat.blt i 64 with
    | true => rw [hb] at h; exact scells_sound h
    | false => rw [hb] at h; exact h
  · exact h.elim

theorem sliceCells_mono {H : IHeap} {a : Option Addr} {n sz : Nat} {F G : List Value → Prop} (hFG : ∀ l, F l → G l) (h : sliceCells H a n sz F) : sliceCells H a n sz G := by
  unfold sliceCells at h ⊢
  split at h
  · exact ⟨h.1, hFG _ h.2⟩
  · obtain ⟨cs, h1, h2⟩ := h; exact ⟨cs, h1, hFG _ h2⟩
  · exact h.elim

def yappended (h : Option Hint) (H : IHeap) (a : Option Addr) (n c m sz : Nat) (old new : List Value) (K : Value → IHeap → Prop) : Prop :=
  match a with
  | none => K (newSlice H (n + m) sz) (newO H (.cells (old ++ new) true))
  | some ⟨i, o, some q⟩ =>
    bcase (Nat.beq m 0) (K (.slice (some ⟨i, o, some q⟩) n c) H)
      ((q / 2 = sz ∧ new.all okCell = true) ∧
        (match h with
        | some .room => n + m ≤ c ∧ stCells H i (o + n * sz) new fun H' => K (.slice (some ⟨i, o, some q⟩) (n + m) c) H'
        | _ => c < n + m ∧
          bcase (Nat.beq (q % 2) 1) (K (newSlice H (n + m) sz) (newO H (.cells (old ++ new) true)))
            (bif Nat.blt i 64 then (match H[i]? with | some (.cells _ true) => K (newSlice H (n + m) sz) (newO (H.set i .dead) (.cells (old ++ new) true)) | _ => False)
             else (∃ cs, H[i]? = some (.cells cs true)) ∧ K (newSlice H (n + m) sz) (newO (H.set i .dead) (.cells (old ++ new) true)))))
  | _ => False

theorem stCells_mono {H : IHeap} {i o : Nat} {vs : List Value} {K K' : IHeap → Prop} (hk : ∀ H, K H → K' H) (h : stCells H i o vs K) : stCells H i o vs K' := let ⟨cs, h1, h2, h3⟩ := h; ⟨cs, h1, h2, hk _ h3⟩

theorem yappended_sound {h : Option Hint} {H : IHeap} {a : Option Addr} {n c m sz : Nat} {old new : List Value} {K K' : Value → IHeap → Prop} (hk : ∀ v H, K v H → K' v H) (hh : yappended h H a n c m sz old new K) :
    appended H a n c m sz old new K' ∨ (a = none ∧ K' (newSlice H (n + m) sz) (newO H (.cells (old ++ new) true))) := by
  unfold yappended at hh
  split at hh
  · exact .inr ⟨rfl, hk _ _ hh⟩
  · rename_i i o q
    refine .inl ?_
    unfold appended
    unfold bcase at hh ⊢
    cases hm : Nat.beq m 0 with
    | true => rw [hm] at hh; exact hk _ _ hh
    | false =>
      rw [hm] at hh
      simp only at hh ⊢
      obtain ⟨h1, h2⟩ := hh
      refine ⟨h1, ?_⟩
      split at h2
      · exact ⟨fun _ => stCells_mono (fun H h => hk _ _ h) h2.2, fun hlt => absurd h2.1 (by omega)⟩
      · obtain ⟨h2, h3⟩ := h2
        refine ⟨fun hle => absurd h2 (by omega), fun _ => ?_⟩
        cases hq : Nat.beq (q % 2) 1 with
        | true => rw [hq] at h3; exact hk _ _ h3
        | false =>
          rw [hq] at h3
          simp only at h3 ⊢
          cases hb : Nat.blt i 64 with
          | true =>
            rw [hb] at h3
            simp only [cond_true] at h3
            split at h3
            · rename_i cs hc; exact ⟨⟨cs, hc⟩, hk _ _ h3⟩
            · exact h3.elim
          | false => rw [hb] at h3; exact ⟨h3.1, hk _ _ h3.2⟩
  · exact hh.elim

def yappend (P : Program) (h : Option Hint) (t : TypeId) (x y : Value) (H : IHeap) (K : Value → IHeap → Prop) : Prop :=
  match P.underlying t, x, y with
  | some (.slice e), .slice a n c, .slice b m _ =>
    bif rowOk P e then
      ((n + m) * sby P e ≤ 70368744177664 ∧ n + m ≤ 70368744177664) ∧
      ycells H a n (ssz P e) fun old => ycells H b m (ssz P e) fun new => yappended h H a n c m (ssz P e) old new K
    else False
  | _, _, _ => False
theorem yappend_sound {P : Program} {h : Option Hint} {t : TypeId} {x y : Value} {H : IHeap} {K K' : Value → IHeap → Prop} (hk : ∀ v H, K v H → K' v H) (hh : yappend P h t x y H K) : append P t x y H K' := by
  unfold yappend at hh
  unfold append
  split at hh
  · rename_i e a n c b m c' hu
    obtain ⟨hb, h1, h2⟩ := bifF hh
    simp only [hu, hb, cond_true]
    exact ⟨h1, sliceCells_mono (fun old h => sliceCells_mono (fun new h => yappended_sound hk h) (ycells_sound h)) (ycells_sound h2)⟩
  · exact hh.elim

/-! ### maps -/
def ymapAt (H : IHeap) (r : Nat) (K : List MapEntry → Nat → Prop) : Prop :=
  bif Nat.blt r 64 then (match H[r]? with | some (.map es c) => K es c | _ => False) else mapAt H r K
theorem ymapAt_sound {H : IHeap} {r : Nat} {K : List MapEntry → Nat → Prop} (h : ymapAt H r K) : mapAt H r K := by
  unfold ymapAt at h
  cases hb : Nat.blt r 64 with
  | true =>
    rw [hb] at h
    simp only [cond_true] at h
    split at h
    · rename_i es c hH; exact ⟨es, c, hH, h⟩
    · exact h.elim
  | false => rw [hb] at h; exact h

def ylookup (P : Program) (t : TypeId) (H : IHeap) (m k : Value) (ok : Bool) (K : Value → Prop) : Prop :=
  match P.underlying t, m with
  | some (.map kt et), .map (some r) =>
    (match zeroV P et with
    | some z => ymapAt H r fun es _ => keyOk P kt k = true ∧ ∃ res : Option Value, findV P kt k es = some res ∧ optK (P.underlying et) res (fun v => K (okV ok v true)) (K (okV ok z false))
    | none => False)
  | _, _ => False
theorem ylookup_sound {P : Program} {t : TypeId} {H : IHeap} {m k : Value} {ok : Bool} {K : Value → Prop} (h : ylookup P t H m k ok K) : lookup P t H m k ok K := by
  unfold ylookup at h
  unfold lookup
  split at h
  · rename_i kt et r hu
    simp only [hu]
    split at h
    · rename_i z hz
      obtain ⟨es, c, hH, h1, res, h2, h3⟩ := ymapAt_sound h
      simp only [hz]
      refine ⟨h1, es, c, hH, ?_⟩
      unfold lookE
      unfold findV at h2
      unfold optK at h3
      split at h2
      · rename_i e he
        cases h2
        simp only [he]
        exact h3
      · rename_i he
        cases h2
        simp only [he]
        exact h3
      · cases h2
    · exact h.elim
  · exact h.elim

def ymapUpdate (P : Program) (t : TypeId) (H : IHeap) (m k v : Value) (K : IHeap → Prop) : Prop :=
  match P.underlying t, m with
  | some (.map kt et), .map (some r) => ymapAt H r fun es clock => keyOk P kt k = true ∧ ∃ (es' : List MapEntry) (c' : Nat), putE P kt es clock k v (fun a b => a = es' ∧ b = c') ∧ K (H.set r (.map es' c'))
  | _, _ => False
theorem ymapUpdate_sound {P : Program} {t : TypeId} {H : IHeap} {m k v : Value} {K K' : IHeap → Prop} (hk : ∀ H, K H → K' H) (h : ymapUpdate P t H m k v K) : mapUpdate P t H m k v K' := by
  unfold ymapUpdate at h
  unfold mapUpdate
  split at h
  · rename_i kt et r hu
    simp only [hu]
    obtain ⟨es, c, hH, h1, es', c', h2, h3⟩ := ymapAt_sound h
    refine ⟨h1, es, c, hH, ?_⟩
    unfold putE at h2 ⊢
    split at h2
    · rename_i hf; simp only [hf]; obtain ⟨rfl, rfl⟩ := h2; exact hk _ h3
    · rename_i hf; simp only [hf]; obtain ⟨rfl, rfl⟩ := h2; exact hk _ h3
    · exact h2.elim
  · exact h.elim

/-! ### others -/
theorem makeSlice_mono {P : Program} {t : TypeId} {l c : Value} {H : IHeap} {K K' : Value → IHeap → Prop} (hk : ∀ v H, K v H → K' v H) (h : makeSlice P t l c H K) : makeSlice P t l c H K' := by
  unfold makeSlice at h ⊢
  split at h
  · split at h
    · obtain ⟨hb, rfl, h2, h3, h4, h5⟩ := bifF h
      simp only [*, cond_true]
      exact ⟨trivial, h2, h3, h4, hk _ _ h5⟩
    · exact h.elim
  · exact h.elim
theorem acase_mono {a : Option Addr} {K K' : Nat → Nat → Nat → Prop} (hk : ∀ i o q, K i o q → K' i o q) (h : acase a K) : acase a K' := by
  unfold acase at h ⊢
  split at h
  · exact hk _ _ _ h
  · exact h.elim
theorem bcase_mono {b : Bool} {X Y X' Y' : Prop} (hx : X → X') (hy : Y → Y') (h : bcase b X Y) : bcase b X' Y' := by cases b with | true => exact hx h | false => exact hy h
theorem copyOf_mono {P : Program} {t : TypeId} {H : IHeap} {x y : Value} {K K' : Value → IHeap → Prop} (hk : ∀ v H, K v H → K' v H) (h : copyOf P t H x y K) : copyOf P t H x y K' := by
  unfold copyOf at h ⊢
  split at h
  · obtain ⟨hb, h⟩ := bifF h
    simp only [*, cond_true]
    exact sliceCells_mono (fun new h => bcase_mono (fun h => hk _ _ h) (fun h => acase_mono (fun i o q h => ⟨h.1, stCells_mono (fun H h => hk _ _ h) h.2⟩) h) h) h
  · exact h.elim
theorem clearOf_mono {P : Program} {t : TypeId} {H : IHeap} {v : Value} {K K' : IHeap → Prop} (hk : ∀ H, K H → K' H) (h : clearOf P t H v K) : clearOf P t H v K' := by
  unfold clearOf at h ⊢
  split at h
  · exact hk _ h
  · obtain ⟨es, c, h1, h2⟩ := h; exact ⟨es, c, h1, hk _ h2⟩
  · refine bcase_mono (fun h => hk _ h) (fun h => acase_mono (fun i o q h => ?_) h) h
    unfold zeros at h ⊢
    split at h
    · obtain ⟨hb, h⟩ := bifF h
      simp only [hb, cond_true]
      exact stCells_mono hk h
    · exact h.elim
  · exact h.elim
theorem mapDelete_mono {P : Program} {t : TypeId} {H : IHeap} {m k : Value} {K K' : IHeap → Prop} (hk : ∀ H, K H → K' H) (h : mapDelete P t H m k K) : mapDelete P t H m k K' := by
  unfold mapDelete at h ⊢
  split at h
  · obtain ⟨h1, es, c, h2, h3, h4⟩ := h; exact ⟨h1, es, c, h2, h3, hk _ h4⟩
  · exact ⟨h.1, hk _ h.2⟩
  · exact h.elim
theorem part_mono {P : Program} {t : TypeId} {cs : List Value} {off : Nat} {K K' : Value → Prop} (hk : ∀ v, K v → K' v) (h : part P t cs off K) : part P t cs off K' := by
  unfold part at h ⊢
  split at h
  · exact ⟨h.1, hk _ h.2⟩
  · exact ⟨h.1, hk _ h.2⟩
  · unfold cellOf at h ⊢
    split at h
    · exact det_shaped.mono hk h
    · exact h.elim
  · exact h.elim
theorem field_mono {P : Program} {t : TypeId} {v : Value} {f : Nat} {K K' : Value → Prop} (hk : ∀ v, K v → K' v) (h : field P t v f K) : field P t v f K' := by
  unfold field at h ⊢
  split at h
  · exact part_mono hk h
  · exact h.elim
theorem index_mono {P : Program} {t : TypeId} {v i : Value} {K K' : Value → Prop} (hk : ∀ v, K v → K' v) (h : index P t v i K) : index P t v i K' := by
  unfold index at h ⊢
  split at h
  · obtain ⟨h1, b, h2, h3⟩ := h; exact ⟨h1, b, h2, hk _ h3⟩
  · obtain ⟨hb, h⟩ := bifF h
    simp only [hb, cond_true]
    exact ⟨h.1, h.2.1, part_mono hk h.2.2⟩
  · exact h.elim

def yop (P : Program) (hs : List (Nat × Hint)) (sc : SCall) (o : Oper) (env : Env) (H : IHeap) (K : Value → IHeap → Prop) (Qp : Value → IHeap → Prop) : Prop :=
  match o.op with
  | .move x => K (iev env x) H
  | .assign x => K (iev env x) H
  | .pick c a b =>
    (match iev env c with
    | .bool c => pickV c (iev env a) (iev env b) fun v => K v H
    | _ => False)
  | .alloc t => alloc P t H K
  | .box t x => box (iev env x) H K
  | .build t ps => (match xbuild P t (ps.toList.map fun p => (p.1, iev env p.2)) with | some v => K v H | none => False)
  | .buildSlice t n ps => sbuildSlice P t n (ps.toList.map fun p => (p.1, iev env p.2)) H K
  | .load t a => ptrAt (iev env a) fun i f => yload P (hintOf hs o.dst) t H i f fun v => K v H
  | .store t a x => ptrAt (iev env a) fun i f => yst P t H i f (iev env x) fun H' => K anyV H'
  | .nilCheck x =>
    (match iev env x with
    | .pointer a => pcase a fun i f => K (ptrTo i f) H
    | .func f a b => K (.func f a b) H
    | _ => False)
  | .binOp op t x y _ => sbin P op t (iev env x) (iev env y) fun v => K v H
  | .unOp op _ x => unOp op (iev env x) fun v => K v H
  | .convert s d x => convert P s d (iev env x) fun v => K v H
  | .makeFunc (.func f) first cap => K (.func (.func f) ⟨first.toList.map (iev env)⟩ ⟨cap.toList.map (iev env)⟩) H
  | .makeMap _ none => K (.map (some (Pol.pos H))) (newO H (.map [] 0))
  | .slice t x lo hi mx => slice P t H (iev env x) (lo.map (iev env)) (hi.map (iev env)) (mx.map (iev env)) fun v => K v H
  | .fieldAddr t x f => fieldAddr P t (iev env x) f fun v => K v H
  | .indexAddr t x i => indexAddr P t (iev env x) (iev env i) fun v => K v H
  | .extract x i => extractOf (iev env x) i fun v => K v H
  | .call { callee := .value f, args := ⟨ags⟩, .. } =>
    (match iev env f with
    | .func (.func g) ⟨first⟩ ⟨cap⟩ => sc g (first ++ ags.map (iev env) ++ cap) H fun v H' => result P o.type v fun v => K v H'
    | _ => False)
  | .call { callee := .builtin .len, args := ⟨x :: _⟩, argTypes := ⟨t :: _⟩ } => lenOf P t H (iev env x) fun v => K v H
  | .call { callee := .builtin .append, args := ⟨x :: y :: _⟩, argTypes := ⟨t :: u :: _⟩ } => (match P.underlying u with | some (.slice _) => yappend P (hintOf hs o.dst) t (iev env x) (iev env y) H K | _ => False)
  | .lookup t m k ok => ylookup P t H (iev env m) (iev env k) ok fun v => K v H
  | .mapUpdate t m k v => ymapUpdate P t H (iev env m) (iev env k) (iev env v) fun H' => K anyV H'
  | .insert t m k v => ymapUpdate P t H (iev env m) (iev env k) (iev env v) fun H' => K anyV H'
  | .call { callee := .builtin .min, args := ⟨ags⟩, argTypes := ⟨_ :: _⟩ } => minMax false (ags.map (iev env)) fun v => K v H
  | .call { callee := .builtin .max, args := ⟨ags⟩, argTypes := ⟨_ :: _⟩ } => minMax true (ags.map (iev env)) fun v => K v H
  | .makeSlice t l c => makeSlice P t (iev env l) (iev env c) H K
  | .field t x f => field P t (iev env x) f fun v => K v H
  | .index t x i => index P t (iev env x) (iev env i) fun v => K v H
  | .call { callee := .builtin .delete, args := ⟨m :: k :: _⟩, argTypes := ⟨t :: _⟩ } => mapDelete P t H (iev env m) (iev env k) fun H' => K (.tuple ⟨[]⟩) H'
  | .call { callee := .builtin .clear, args := ⟨x :: _⟩, argTypes := ⟨t :: _⟩ } => clearOf P t H (iev env x) fun H' => K (.tuple ⟨[]⟩) H'
  | .call { callee := .builtin .copy, args := ⟨x :: y :: _⟩, argTypes := ⟨t :: u :: _⟩ } => (match P.underlying u with | some (.slice _) => copyOf P t H (iev env x) (iev env y) K | _ => False)
  | _ => False

theorem yop_sound {P : Program} {hs : List (Nat × Hint)} {sc : SCall} (hsc : SOk P sc) {o : Oper} {env : Env} {H : IHeap} {K K' : Value → IHeap → Prop} {Qp : Value → IHeap → Prop} (hk : ∀ v H, K v H → K' v H) (h : yop P hs sc o env H K Qp) : iop P o env H K' Qp := by
  obtain ⟨dst, op, type, pos, after, guard⟩ := o
  have ptr : ∀ {v : Value} {F G : Nat → Nat → Prop}, ptrAt v F → (∀ i f, F i f → G i f) → ptrAt v G := by
    intro v F G h hFG
    unfold ptrAt at h ⊢
    split at h
    · unfold pcase at h ⊢
      split at h
      · exact hFG _ _ h
      · exact h
    · exact h
  cases op with
  | move x => exact hk _ _ h
  | assign x => exact hk _ _ h
  | pick c a b =>
    simp only [yop] at h
    simp only [iop]
    split at h
    · rename_i c' hc
      simp only [hc]
      exact det_pickV.mono (fun v h => hk v H h) h
    · exact h.elim
  | alloc t =>
    simp only [yop, alloc] at h
    simp only [iop, alloc]
    split at h
    · exact hk _ _ h
    · exact h
  | box t x =>
    simp only [yop, box] at h
    simp only [iop, box]
    split at h <;> first | exact hk _ _ h | exact h.elim
  | build t ps =>
    simp only [yop] at h
    split at h
    · rename_i v hv; exact xbuild_sound hv (K := fun v => K' v H) (hk _ _ h)
    · exact h.elim
  | buildSlice t n ps =>
    simp only [yop, sbuildSlice] at h
    simp only [iop, buildSlice]
    split at h
    · split at h
      · obtain ⟨hb, h⟩ := bifF h
        simp only [*, cond_true]
        split at h
        · rename_i cs hc; exact xfill_sound hc (hk _ _ h)
        · exact h.elim
      · exact h.elim
    · exact h.elim
  | load t a => exact ptr (v := iev env a) h fun i f h => (det_load.mono (fun v h => hk v H h) (yload_sound h))
  | store t a x =>
    refine ptr (v := iev env a) h fun i f h => ?_
    have h' := yst_sound h
    unfold stV at h' ⊢
    split at h'
    · obtain ⟨hb, h'⟩ := bifF h'
      simp only [hb, cond_true]
      obtain ⟨h1, cs, h2, h3, h4⟩ := h'
      exact ⟨h1, cs, h2, h3, hk _ _ h4⟩
    · exact h'.elim
  | nilCheck x =>
    simp only [yop] at h
    simp only [iop]
    generalize iev env x = v at h ⊢
    cases v with
    | pointer a =>
      simp only at h ⊢
      unfold pcase at h ⊢
      split at h
      · exact hk _ _ h
      · exact h.elim
    | func f a b => exact hk _ _ h
    | _ => exact h.elim
  | binOp op t x y z => exact det_binOp.mono (fun v h => hk v H h) (sbin_sound h)
  | unOp op t x => exact det_unOp.mono (fun v h => hk v H h) h
  | convert s d x => exact det_convert.mono (fun v h => hk v H h) h
  | makeFunc f first cap => cases f <;> first | exact hk _ _ h | exact h.elim
  | makeMap t r => cases r <;> first | exact hk _ _ h | exact h.elim
  | slice t x lo hi mx => exact det_slice.mono (fun v h => hk v H h) h
  | fieldAddr t x f => exact det_fieldAddr.mono (fun v h => hk v H h) h
  | indexAddr t x i => exact det_indexAddr.mono (fun v h => hk v H h) h
  | lookup t m k ok => exact det_lookup.mono (fun v h => hk v H h) (ylookup_sound (K := fun v => K v H) h)
  | mapUpdate t m k v => exact ymapUpdate_sound (K := fun H' => K anyV H') (fun H' h => hk anyV H' h) h
  | insert t m k v => exact ymapUpdate_sound (K := fun H' => K anyV H') (fun H' h => hk anyV H' h) h
  | makeSlice t l c => exact makeSlice_mono hk h
  | field t x f => exact field_mono (fun v h => hk v H h) h
  | index t x i => exact index_mono (fun v h => hk v H h) h
  | extract x i => exact det_extract.mono (fun v h => hk v H h) h
  | call c =>
    obtain ⟨callee, ⟨ags⟩, ⟨tys⟩⟩ := c
    cases callee with
    | value f =>
      simp only [yop] at h
      show icallV P (iev env f) (ags.map (iev env)) H (endK P type K' Qp)
      unfold icallV
      split at h
      · rename_i g first cap hf
        rw [hf]
        refine (hsc _ _ _ _ h).mono fun e H' he => ?_
        obtain ⟨v, rfl, hv⟩ := he
        exact result_mono (fun v h => hk v H' h) hv
      · exact h.elim
    | builtin b =>
      cases b with
      | len =>
        cases ags with
        | nil => exact h.elim
        | cons x ags =>
          cases tys with
          | nil => exact h.elim
          | cons t tys => exact det_lenOf.mono (fun v h => hk v H h) h
      | append =>
        cases ags with
        | nil => exact h.elim
        | cons x ags =>
          cases ags with
          | nil => exact h.elim
          | cons y ags =>
            cases tys with
            | nil => exact h.elim
            | cons t tys =>
              cases tys with
              | nil => exact h.elim
              | cons u tys =>
                have h : (match P.underlying u with | some (.slice _) => yappend P (hintOf hs dst) t (iev env x) (iev env y) H K | _ => False) := h
                show (match P.underlying u with | some (.slice _) => append P t (iev env x) (iev env y) H K' | _ => False)
                split at h
                · exact yappend_sound hk h
                · exact h.elim
      | delete =>
        cases tys with
        | nil => rcases ags with _ | ⟨x, _ | ⟨y, ags⟩⟩ <;> exact h.elim
        | cons t tys =>
          rcases ags with _ | ⟨x, _ | ⟨y, ags⟩⟩
          · exact h.elim
          · exact h.elim
          · exact mapDelete_mono (K := fun H' => K (.tuple ⟨[]⟩) H') (fun H h => hk _ H h) h
      | clear =>
        cases tys with
        | nil => cases ags <;> exact h.elim
        | cons t tys =>
          cases ags with
          | nil => exact h.elim
          | cons x ags => exact clearOf_mono (K := fun H' => K (.tuple ⟨[]⟩) H') (fun H h => hk _ H h) h
      | copy =>
        rcases ags with _ | ⟨x, _ | ⟨y, ags⟩⟩ <;> rcases tys with _ | ⟨t, _ | ⟨u, tys⟩⟩
        all_goals first
          | exact h.elim
          | skip
        have h : (match P.underlying u with | some (.slice _) => copyOf P t H (iev env x) (iev env y) K | _ => False) := h
        show (match P.underlying u with | some (.slice _) => copyOf P t H (iev env x) (iev env y) K' | _ => False)
        split at h
        · exact copyOf_mono hk h
        · exact h.elim
      | min =>
        cases tys with
        | nil => cases ags <;> exact h.elim
        | cons t tys =>
          have h : minMax false (ags.map (iev env)) (fun v => K v H) := by cases ags <;> exact h
          have h2 := det_minMax.mono (K' := fun v => K' v H) (fun v h => hk v H h) h
          cases ags <;> exact h2
      | max =>
        cases tys with
        | nil => cases ags <;> exact h.elim
        | cons t tys =>
          have h : minMax true (ags.map (iev env)) (fun v => K v H) := by cases ags <;> exact h
          have h2 := det_minMax.mono (K' := fun v => K' v H) (fun v h => hk v H h) h
          cases ags <;> exact h2
      | _ => cases ags <;> cases tys <;> exact h.elim
    | invoke a b => cases ags <;> cases tys <;> exact h.elim
  | _ => exact h.elim

def yrun (P : Program) (hs : List (Nat × Hint)) (sc : SCall) (all : List Oper) : List Oper → Env → IHeap → (Env → IHeap → Prop) → (Value → IHeap → Prop) → Prop
  | [], env, H, K, _ => K env H
  | o :: l, env, H, K, Qp =>
    guarded all o.guard env (fun env => yop P hs sc o env H (fun v H' => yrun P hs sc all l (put env o.dst v) H' K Qp) Qp) (fun env => yrun P hs sc all l (put env o.dst undef) H K Qp)

theorem yrun_sound {P : Program} {hs : List (Nat × Hint)} {sc : SCall} (hsc : SOk P sc) {all : List Oper} {K : Env → IHeap → Prop} {Qp : Value → IHeap → Prop} : ∀ (l : List Oper) (env : Env) (H : IHeap), yrun P hs sc all l env H K Qp → irun P all l env H K Qp
  | [], env, H, h => h
  | o :: l, env, H, h => guarded_mono (fun e h => yop_sound hsc (fun v H' h => yrun_sound hsc l _ H' h) h) (fun e h => yrun_sound hsc l _ H h) h

def yrunD (P : Program) (hs : List (Nat × Hint)) (sc : SCall) (all : List Oper) (bs : List Nat) : List Nat → Env → IHeap → Watch → (Env → IHeap → Prop) → (Value → IHeap → Prop) → Prop
  | [], env, H, _, K, _ => K env H
  | i :: l, env, H, ws, K, Qp =>
    match all[i]? with
    | none => False
    | some o =>
      guarded all o.guard env
        (fun env => yop P hs sc o env H (fun v H' =>
          bif isActs o then watching ws (bs.getD i 0) H' (yrunD P hs sc all bs l (put env o.dst v) H' ws K Qp)
          else yrunD P hs sc all bs l (put env o.dst v) H' (watchOf i o env v H H' ++ ws) K Qp) Qp)
        (fun env => yrunD P hs sc all bs l (put env o.dst undef) H ws K Qp)

theorem yrunD_sound {P : Program} {hs : List (Nat × Hint)} {sc : SCall} (hsc : SOk P sc) {all : List Oper} {bs : List Nat} {K : Env → IHeap → Prop} {Qp : Value → IHeap → Prop} : ∀ (l : List Nat) (env : Env) (H : IHeap) (ws : Watch), yrunD P hs sc all bs l env H ws K Qp → irunD P all bs l env H ws K Qp
  | [], env, H, ws, h => h
  | i :: l, env, H, ws, h => by
    cases ho : all[i]? with
    | none => simp only [yrunD, ho] at h
    | some o =>
      simp only [yrunD, ho] at h
      simp only [irunD, ho]
      refine guarded_mono (fun e h => yop_sound hsc (fun v H' h => ?_) h) (fun e h => yrunD_sound hsc l _ H _ h) h
      cases ha : isActs o with
      | true => rw [ha] at h; exact watching_mono (fun h => yrunD_sound hsc l _ H' _ h) _ h
      | false => rw [ha] at h; exact yrunD_sound hsc l _ H' _ h

/-- As sx; loops are run round by round. -/
def sy (P : Program) (hs : List (Nat × Hint)) (sc : SCall) : Nat → Code → (IExit → Env → IHeap → Prop) → Env → IHeap → Prop
  | 0, _, _, _, _ => False
  | n + 1, c, Q, env, H =>
    match c with
    | .skip => Q .normal env H
    | .region _ ops false => yrun P hs sc ops.toList ops.toList env H (Q .normal) (fun v => Q (.panic v) [])
    | .region _ ops true => yrunD P hs sc ops.toList (befores ops.toList []) (canon ops.toList) env H [] (Q .normal) (fun v => Q (.panic v) [])
    | .seq a b => sy P hs sc n a (thn (fun env H => sy P hs sc n b Q env H) Q) env H
    | .cond c a b =>
      (match iev env c with
      | .bool t => bcase t (sy P hs sc n a Q env H) (sy P hs sc n b Q env H)
      | _ => False)
    | .block id a => sy P hs sc n a (inB id Q) env H
    | .loop a => sy P hs sc n a (thn (fun env H => sy P hs sc n (.loop a) Q env H) Q) env H
    | .exit id => Q (.exit id) env H
    | .scope a => sy P hs sc n a Q env H
    | .label _ => Q .normal env H
    | .ret => Q .ret env H
    | _ => False

theorem sy_sound {P : Program} {hs : List (Nat × Hint)} {sc : SCall} {nt : Nat} {ro : Option Nat} {rf : Bool} (hm : P.follows .mixedOrders = true) (hsc : SOk P sc) : ∀ (n : Nat),
    (∀ (c : Code) (Q : IExit → Env → IHeap → Prop) (env : Env) (H : IHeap), codeOk P nt rf c = true → sy P hs sc n c Q env H → IW ro P nt c Q env H) ∧
    (∀ (c : Code) (Q : IExit → Env → IHeap → Prop) (env : Env) (H : IHeap), codeOk P nt rf c = true → sy P hs sc n (.loop c) Q env H → LW ro P nt c Q env H)
  | 0 => ⟨(fun c Q env H _ h => h.elim), (fun c Q env H _ h => h.elim)⟩
  | n + 1 => by
    obtain ⟨ihA, ihB⟩ := sy_sound (nt := nt) (ro := ro) (rf := rf) hm hsc n
    have B : ∀ (c : Code) (Q : IExit → Env → IHeap → Prop) (env : Env) (H : IHeap), codeOk P nt rf c = true → sy P hs sc (n + 1) (.loop c) Q env H → LW ro P nt c Q env H := by
      intro c Q env H hok h
      simp only [sy] at h
      refine loop_step0 (IW.mono (ihA c _ env H hok h) fun e env' H' hq => ?_)
      cases e with
      | normal => exact ihB c Q env' H' hok hq
      | exit id => exact hq
      | ret => exact hq
      | panic v => exact hq
    refine ⟨?_, B⟩
    intro c Q env H hok h
    cases c with
    | skip => intro n0 β w a S hT hM; exact wpIn_skip ⟨β, H, env, Step.refl _ _, S, hT, hM, h⟩
    | region id ops draws =>
      cases draws with
      | false => exact region_sound hok (yrun_sound hsc _ _ _ h)
      | true => exact draw_sound hm hok (yrunD_sound hsc _ _ _ _ h)
    | seq x y =>
      simp only [codeOk, Bool.and_eq_true] at hok
      simp only [sy] at h
      refine seq_of (IW.mono (ihA x _ env H hok.1 h) fun e env' H' hq => ?_)
      cases e with
      | normal => exact ihA y _ _ _ hok.2 hq
      | exit id => exact hq
      | ret => exact hq
      | panic v => exact hq
    | cond c x y =>
      simp only [codeOk, Bool.and_eq_true] at hok
      simp only [sy] at h
      split at h
      · rename_i t ht
        refine cond_of hok.1.1 ht ?_
        unfold bcase at h
        cases t with
        | true => exact ihA x _ _ _ hok.1.2 h
        | false => exact ihA y _ _ _ hok.2 h
      · exact h.elim
    | block id x => exact block_of (ihA x _ env H hok h)
    | loop x => exact loop_of0 (B x Q env H hok h)
    | scope x => exact scope_of (ihA x _ env H hok h)
    | exit id => intro n0 β w a S hT hM; exact wpIn_exit ⟨β, H, env, Step.refl _ _, S, hT, hM, h⟩
    | label l => intro n0 β w a S hT hM; exact wpIn_label ⟨β, H, env, Step.refl _ _, S, hT, hM, h⟩
    | ret => intro n0 β w a S hT hM; exact wpIn_ret ⟨β, H, env, Step.refl _ _, S, hT, hM, h⟩
    | _ => exact h.elim


/-! ### parts of code, one after another -/
def syl (P : Program) (hs : List (Nat × Hint)) (sc : SCall) (n : Nat) : List Code → (IExit → Env → IHeap → Prop) → Env → IHeap → Prop
  | [], Q, env, H => Q .normal env H
  | c :: cs, Q, env, H => sy P hs sc n c (thn (fun env H => syl P hs sc n cs Q env H) Q) env H

def IWRL (r : Root) (ro : Option Nat) (P : Program) (nt : Nat) : List Code → (IExit → Env → IHeap → Prop) → Env → IHeap → Prop
  | [], Q, env, H => Q .normal env H
  | c :: cs, Q, env, H => IWR r ro P nt c (thn (fun env H => IWRL r ro P nt cs Q env H) Q) env H

theorem IWRL.mono {r : Root} {ro : Option Nat} {P : Program} {nt : Nat} : ∀ (cs : List Code) {Q Q' : IExit → Env → IHeap → Prop} {env : Env} {H : IHeap}, (∀ e env H, Q e env H → Q' e env H) → IWRL r ro P nt cs Q env H → IWRL r ro P nt cs Q' env H
  | [], Q, Q', env, H, hq, h => hq _ _ _ h
  | c :: cs, Q, Q', env, H, hq, h => by
    refine IWR.mono h fun e env H h => ?_
    cases e with
    | normal => exact IWRL.mono cs hq h
    | exit id => exact hq _ _ _ h
    | ret => exact hq _ _ _ h
    | panic v => exact hq _ _ _ h

theorem iwr_spine {r : Root} {ro : Option Nat} {P : Program} {nt : Nat} : ∀ (c : Code) (acc : List Code) {Q : IExit → Env → IHeap → Prop} {env : Env} {H : IHeap}, IWRL r ro P nt (spine c acc) Q env H → IWR r ro P nt c (thn (fun env H => IWRL r ro P nt acc Q env H) Q) env H := by
  intro c
  induction c with
  | seq a b iha ihb =>
    intro acc Q env H h
    refine iwr_seq (IWR.mono (iha (spine b acc) h) fun e env H h => ?_)
    cases e with
    | normal => exact ihb acc h
    | exit id => exact h
    | ret => exact h
    | panic v => exact h
  | _ => intro acc Q env H h; exact h

theorem iwr_of_spine {r : Root} {ro : Option Nat} {P : Program} {nt : Nat} {c : Code} {Q : IExit → Env → IHeap → Prop} {env : Env} {H : IHeap} (h : IWRL r ro P nt (spine c []) Q env H) : IWR r ro P nt c Q env H := by
  refine IWR.mono (iwr_spine c [] h) fun e env H h => ?_
  cases e <;> exact h

/-- What is forgotten behind a part. -/
theorem IWR.kept {r : Root} {ro : Option Nat} {P : Program} {nt : Nat} {c : Code} {Q : IExit → Env → IHeap → Prop} {env : Env} {H : IHeap} (l : List Nat) (next : Env → IHeap → Prop)
    (hq : ∀ env H, next env H → Q .normal env H) (h : IWR r ro P nt c (thnk l next Q) env H) : IWR r ro P nt c Q env H := by
  intro n0 β w a St S hT hM
  refine wpIn_mono (h n0 β w a St S hT hM) fun e a' w' h => ?_
  cases e with
  | normal => obtain ⟨β', H', env', St, S', hT', hM', hn⟩ := h; exact ⟨β', H', _, St, S', hT'.keep l, hM', hq _ _ hn⟩
  | exit id => obtain ⟨β', H', env', St, S', hT', hM', hn⟩ := h; exact ⟨β', H', _, St, S', hT'.keep l, hM', hn⟩
  | ret => obtain ⟨β', H', env', St, S', hT', hM', hn⟩ := h; exact ⟨β', H', _, St, S', hT'.keep l, hM', hn⟩
  | panic ch => obtain ⟨β', H', env', v, v', St, S', hch, hv, hM', hsz, hn⟩ := h; exact hn.elim
  | goto t => exact h
  | outgrown => exact h

theorem sy_iwr {r : Root} {P : Program} {hs : List (Nat × Hint)} {sc : SCall} {nt : Nat} {ro : Option Nat} {rf : Bool} (hm : P.follows .mixedOrders = true) (hsc : SOk P sc) (n : Nat) {c : Code} {Q : IExit → Env → IHeap → Prop} {env : Env} {H : IHeap}
    (hok : codeOk P nt rf c = true) (h : sy P hs sc n c Q env H) : IWR r ro P nt c Q env H := .of_iw ((sy_sound (ro := ro) hm hsc n).1 c Q env H hok h)

/-- Parts that are reckoned, ahead of others. l: what is known further on. -/
theorem iwrl_seg {r : Root} {P : Program} {hs : List (Nat × Hint)} {sc : SCall} {nt : Nat} {ro : Option Nat} {rf : Bool} (hm : P.follows .mixedOrders = true) (hsc : SOk P sc) (n : Nat) (l : List Nat) :
    ∀ (A : List Code) (b : Code) (bs : List Code) {Q : IExit → Env → IHeap → Prop} {env : Env} {H : IHeap}, A.all (codeOk P nt rf) = true → syl P hs sc n A (thnk l (fun env H => IWRL r ro P nt (b :: bs) Q env H) Q) env H → IWRL r ro P nt (A ++ b :: bs) Q env H
  | [], b, bs, Q, env, H, hok, h => IWR.weaken h fun t => lk_keep l env t
  | c :: A, b, bs, Q, env, H, hok, h => by
    simp only [List.all_cons, Bool.and_eq_true] at hok
    show IWR r ro P nt c (thn (fun env H => IWRL r ro P nt (A ++ b :: bs) Q env H) Q) env H
    have h1 := sy_iwr (r := r) (ro := ro) hm hsc n hok.1 h
    intro n0 β w a St S hT hM
    refine wpIn_mono (h1 n0 β w a St S hT hM) fun e a' w' h => ?_
    cases e with
    | normal =>
      obtain ⟨β', H', env', St, S', hT', hM', hn⟩ := h
      exact ⟨β', H', _, St, S', hT', hM', iwrl_seg hm hsc n l A b bs hok.2 hn⟩
    | exit id => obtain ⟨β', H', env', St, S', hT', hM', hn⟩ := h; exact ⟨β', H', _, St, S', hT'.keep l, hM', hn⟩
    | ret => obtain ⟨β', H', env', St, S', hT', hM', hn⟩ := h; exact ⟨β', H', _, St, S', hT'.keep l, hM', hn⟩
    | panic ch => obtain ⟨β', H', env', v, v', St, S', hch, hv, hM', hsz, hn⟩ := h; exact hn.elim
    | goto t => exact h
    | outgrown => exact h

/-- The last parts. -/
theorem iwrl_last {r : Root} {P : Program} {hs : List (Nat × Hint)} {sc : SCall} {nt : Nat} {ro : Option Nat} {rf : Bool} (hm : P.follows .mixedOrders = true) (hsc : SOk P sc) (n : Nat) :
    ∀ (A : List Code) {Q : IExit → Env → IHeap → Prop} {env : Env} {H : IHeap}, A.all (codeOk P nt rf) = true → syl P hs sc n A Q env H → IWRL r ro P nt A Q env H
  | [], Q, env, H, hok, h => h
  | c :: A, Q, env, H, hok, h => by
    simp only [List.all_cons, Bool.and_eq_true] at hok
    refine IWR.mono (sy_iwr (r := r) (ro := ro) hm hsc n hok.1 h) fun e env H h => ?_
    cases e with
    | normal => exact iwrl_last hm hsc n A hok.2 h
    | exit id => exact h
    | ret => exact h
    | panic v => exact h

theorem iwrl_loop {r : Root} {P : Program} {nt : Nat} {ro : Option Nat} {id : Nat} {L : Code} {bs : List Code} {Q : IExit → Env → IHeap → Prop} {env : Env} {H : IHeap}
    (h : LWQ r ro P nt L (inB id (thn (fun env H => IWRL r ro P nt bs Q env H) Q)) env H) : IWRL r ro P nt (.block id (.loop L) :: bs) Q env H :=
  iwr_block (iwr_loop h)

/-- A round that has parts. -/
theorem lwq_parts {r : Root} {P : Program} {nt : Nat} {ro : Option Nat} {L : Code} {Q : IExit → Env → IHeap → Prop} {env : Env} {H : IHeap}
    (h : IWRL r ro P nt (spine L []) (thn (fun env H => LWQ r ro P nt L Q env H) Q) env H) : LWQ r ro P nt L Q env H :=
  lwq_step (iwr_of_spine h)

/-- A round that is reckoned. -/
theorem lwq_round {r : Root} {P : Program} {hs : List (Nat × Hint)} {sc : SCall} {nt : Nat} {ro : Option Nat} {rf : Bool} (hm : P.follows .mixedOrders = true) (hsc : SOk P sc) (n : Nat) (l : List Nat) {L : Code} {Q : IExit → Env → IHeap → Prop} {env : Env} {H : IHeap}
    (hok : codeOk P nt rf L = true) (h : sy P hs sc n L (thnk l (fun env H => LWQ r ro P nt L Q env H) Q) env H) : LWQ r ro P nt L Q env H :=
  lwq_step (IWR.kept l _ (fun env H h => h) (IWR.mono (sy_iwr (r := r) (ro := ro) hm hsc n hok h) fun e env H h => by cases e <;> exact h))

theorem IWRL.move {r : Root} {P : Program} {nt : Nat} {ro : Option Nat} : ∀ {cs : List Code} {Q : IExit → Env → IHeap → Prop} {env env2 : Env} {H H2 : IHeap} {σ τ : Nat → Option Nat}, cs ≠ [] → Move r.m env H env2 H2 σ τ → IWRL r ro P nt cs Q env2 H2 → IWRL r ro P nt cs Q env H
  | [], Q, env, env2, H, H2, σ, τ, hne, M, h => absurd rfl hne
  | c :: cs, Q, env, env2, H, H2, σ, τ, hne, M, h => IWR.move M h

/-- A whole function that is reckoned. -/
theorem icalls_sy {P : Program} {hs : List (Nat × Hint)} {sc : SCall} {f : FuncId} {args : List Value} {H : IHeap} {R : IEnd → IHeap → Prop} (n : Nat) (hm : P.follows .mixedOrders = true) (hsc : SOk P sc) (hok : fnOkN P f args.length = true) (hc : codeOk P (ntOf P f) true (bodyOf P f) = true)
    (h : sy P hs sc n (bodyOf P f) (bodyS P (ressOf P f) (slotR H.length R)) (envOf 0 (mvV.goL shU args)) (pad 64 [] (H.map (mvO shU)))) : ICalls P f args H R :=
  icalls_root hok fun r _ => sy_iwr hm hsc n hc h

/-- A whole function, by its parts. -/
theorem icalls_spine {P : Program} {f : FuncId} {args : List Value} {H : IHeap} {R : IEnd → IHeap → Prop} (hok : fnOkN P f args.length = true)
    (h : ∀ r : Root, r.m = 64 + H.length → IWRL r none P (ntOf P f) (spine (bodyOf P f) []) (bodyS P (ressOf P f) (slotR H.length R)) (envOf 0 (mvV.goL shU args)) (pad 64 [] (H.map (mvO shU)))) : ICalls P f args H R :=
  icalls_root hok fun r hr => iwr_of_spine (h r hr)

/-! ### contracts of callees -/
abbrev Ctr := List Value → IHeap → (Value → IHeap → Prop) → Prop
def scC (g0 : Nat) (C : Ctr) (rest : SCall) : SCall := fun g args H K => bif Nat.beq g g0 then C args H K else rest g args H K
theorem scC_ok {P : Program} {g0 : Nat} {C : Ctr} {rest : SCall} (hC : ∀ args H K, C args H K → ICalls P g0 args H (fun e H' => ∃ v, e = .ret v ∧ K v H')) (hr : SOk P rest) : SOk P (scC g0 C rest) := by
  intro g args H K h
  unfold scC at h
  cases hb : Nat.beq g g0 with
  | true => rw [hb] at h; rw [Nat.eq_of_beq_eq_true hb]; exact hC _ _ _ h
  | false => rw [hb] at h; exact hr _ _ _ _ h

/-- Functions that are laid open within their callers. -/
def scI (P : Program) (hs : FuncId → List (Nat × Hint)) (fs : List Nat) (n : Nat) : Nat → SCall → SCall
  | 0, base => base
  | d + 1, base => fun g args H K => bif memN g fs then (fnOkN P g args.length && codeOk P (ntOf P g) true (bodyOf P g)) = true ∧ sy P (hs g) (scI P hs fs n d base) n (bodyOf P g) (bodyS P (ressOf P g) fun e H' => ∃ v, e = .ret v ∧ K v H') (envOf 0 args) H else base g args H K

theorem icalls_iw {P : Program} {f : FuncId} {args : List Value} {H : IHeap} {R : IEnd → IHeap → Prop} (hok : fnOkN P f args.length = true) (h : IW none P (ntOf P f) (bodyOf P f) (bodyS P (ressOf P f) R) (envOf 0 args) H) : ICalls P f args H R := by
  simp only [fnOkN, Bool.and_eq_true] at hok
  obtain ⟨hok, hn⟩ := hok
  unfold fnOk at hok
  unfold ntOf ressOf bodyOf at h
  unfold ntOf at hn
  split at hok
  · rename_i fn h2
    simp only [h2] at h hn
    split at hok
    · rename_i c h3
      simp only [h3] at h
      simp only [Bool.and_eq_true, Bool.not_eq_true'] at hok
      exact icalls_of_iw ⟨h2, h3, hok.1.1, hok.1.2, hok.2, Nat.le_of_ble_eq_true hn⟩ (IW.mono h bodyS_sound)
    · cases hok
  · cases hok

theorem scI_ok {P : Program} {hs : FuncId → List (Nat × Hint)} {fs : List Nat} {n : Nat} (hm : P.follows .mixedOrders = true) : ∀ (d : Nat) {base : SCall}, SOk P base → SOk P (scI P hs fs n d base)
  | 0, base, hb => hb
  | d + 1, base, hb => by
    intro g args H K h
    simp only [scI] at h
    cases hmem : memN g fs with
    | true =>
      rw [hmem] at h
      obtain ⟨h1, h2⟩ := h
      simp only [Bool.and_eq_true] at h1
      exact icalls_iw h1.1 ((sy_sound (ro := none) hm (scI_ok hm d hb) n).1 _ _ _ _ h1.2 h2)
    | false => rw [hmem] at h; exact hb _ _ _ _ h

end Ide

/- Ends of functions over slots. -/
set_option linter.unusedVariables false
set_option linter.unusedSimpArgs false
namespace Ide
open Go Go.RowKit

theorem unS_sh (ks : List Nat) (N i : Nat) : unS ks N (i + 64) = some i := by unfold unS; rw [Nat.ble_eq_true_of_le (by omega)]; simp
theorem back_sh (ks : List Nat) (N : Nat) (H : IHeap) : (H.map (mvO shU)).map (mvO (unS ks N)) = H := by
  rw [List.map_map]
  refine (List.map_congr_left fun o _ => ?_).trans (List.map_id _)
  exact mvO_back (fun i => ⟨i + 64, rfl, unS_sh ks N i⟩) o
theorem base_plain {H : IHeap} {i : Nat} {o : IObj} (h : H[i]? = some o) (hp : plainO o = true) : (H.map (mvO shU))[i]? = some o := by rw [List.getElem?_map, h, Option.map_some, mvO_plain _ hp]
theorem base_get {H : IHeap} {i : Nat} {o : IObj} (h : H[i]? = some o) : (H.map (mvO shU))[i]? = some (mvO shU o) := by rw [List.getElem?_map, h]; rfl

/-- The caller's heap is as it was, and new objects behind it. -/
theorem slot_news {R : IEnd → IHeap → Prop} {H : IHeap} {l : List IObj} (v u : Value) (ks : List Nat) (objs : List IObj) (hnd : ks.Nodup) (hks : ks.all (Nat.blt · 64) = true)
    (hob : NewsAt (unS ks H.length) l ks objs) (hu : Less (mvV (unS ks H.length) v) u) (h : R (.ret u) (H ++ objs)) : slotR H.length R (.ret v) (pad 64 l (H.map (mvO shU))) := by
  refine ⟨l, H.map (mvO shU), ks, H, objs, rfl, by simp, hnd, hks, ?_, ?_, ?_⟩
  · rw [List.length_map, back_sh]; exact LessOs.refl _
  · rw [List.length_map]; exact hob
  · rw [List.length_map]; exact ⟨u, hu, h⟩
theorem slot_ext {R : IEnd → IHeap → Prop} {H : IHeap} {l : List IObj} (v u : Value) (ks : List Nat) (extra extra2 objs : List IObj) (hnd : ks.Nodup) (hks : ks.all (Nat.blt · 64) = true)
    (hx : LessOs (extra.map (mvO (unS ks (H.length + extra.length)))) extra2)
    (hob : NewsAt (unS ks (H.length + extra.length)) l ks objs) (hu : Less (mvV (unS ks (H.length + extra.length)) v) u) (h : R (.ret u) (H ++ (extra2 ++ objs))) : slotR H.length R (.ret v) (pad 64 l (H.map (mvO shU) ++ extra)) := by
  have app : ∀ {a b c d : List IObj}, LessOs a b → LessOs c d → LessOs (a ++ c) (b ++ d) := by
    intro a
    induction a with
    | nil => intro b c d h1 h2; cases b with | nil => exact h2 | cons x b => exact h1.elim
    | cons x a ih => intro b c d h1 h2; cases b with | nil => exact h1.elim | cons y b => exact ⟨h1.1, ih h1.2 h2⟩
  have hl : (H.map (mvO shU) ++ extra).length = H.length + extra.length := by simp
  refine ⟨l, H.map (mvO shU) ++ extra, ks, H ++ extra2, objs, rfl, by rw [hl]; omega, hnd, hks, ?_, ?_, ?_⟩
  · rw [hl, List.map_append, back_sh]; exact app (LessOs.refl _) hx
  · rw [hl]; exact hob
  · rw [hl]; exact ⟨u, hu, by rw [List.append_assoc]; exact h⟩
theorem set_len (B : IHeap) (a : IObj) (r : IHeap) (x : IObj) : (B ++ a :: r).set B.length x = B ++ x :: r := by simp
theorem get_len (B : IHeap) (a : IObj) (r : IHeap) : (B ++ a :: r)[B.length]? = some a := by simp
theorem get_len1 (B : IHeap) (a b : IObj) (r : IHeap) : (B ++ a :: b :: r)[B.length + 1]? = some b := by simp
theorem slot_same {R : IEnd → IHeap → Prop} {H : IHeap} {l : List IObj} (v u : Value) (hu : mvV (unS [] H.length) v = u) (h : R (.ret u) H) : slotR H.length R (.ret v) (pad 64 l (H.map (mvO shU))) :=
  slot_news v u [] [] (by simp) rfl trivial (Less.of_eq hu.symm) (by rw [List.append_nil]; exact h)
theorem slot_less {R : IEnd → IHeap → Prop} {H : IHeap} {l : List IObj} (v u : Value) (hu : Less (mvV (unS [] H.length) v) u) (h : R (.ret u) H) : slotR H.length R (.ret v) (pad 64 l (H.map (mvO shU))) :=
  slot_news v u [] [] (by simp) rfl trivial hu (by rw [List.append_nil]; exact h)
theorem mvV_plain {σ : Nat → Option Nat} {v : Value} (h : (match v with | .tuple ⟨l⟩ => ground.groundL l | v => ground v) = true) : mvV σ v = v := by
  split at h
  · simp only [mvV, mvV.go]; rw [mvL_ground σ _ h]
  · exact mvV_ground σ _ h
theorem slot_plain {R : IEnd → IHeap → Prop} {H : IHeap} {l : List IObj} (v : Value) (hv : (match v with | .tuple ⟨l⟩ => ground.groundL l | v => ground v) = true) (h : R (.ret v) H) : slotR H.length R (.ret v) (pad 64 l (H.map (mvO shU))) :=
  slot_same v v (mvV_plain hv) h

theorem newsAt_free {σ : Nat → Option Nat} {l : List IObj} {k : Nat} {ks : List Nat} {o : IObj} {os : List IObj} (h : l.getD k .free = .free) (ht : NewsAt σ l ks os) : NewsAt σ l (k :: ks) (o :: os) := ⟨.inl h, ht⟩
theorem newsAt_plain {σ : Nat → Option Nat} {l : List IObj} {k : Nat} {ks : List Nat} {o : IObj} {os : List IObj} (h : l.getD k .free = o) (hp : plainO o = true) (ht : NewsAt σ l ks os) : NewsAt σ l (k :: ks) (o :: os) :=
  ⟨.inr (by rw [h, mvO_plain _ hp]; exact LessO.refl _), ht⟩

/-- Slots above s are given up, or kept behind all else; nothing in the caller's heap points to them. -/
theorem ups_map {σ : Nat → Option Nat} {base : IHeap} (h : ∀ o ∈ base, mvO σ o = o) : base.map (mvO σ) = base := (List.map_congr_left h).trans (List.map_id _)
theorem sgT_sh (s : Nat) (ks : List Nat) (N i : Nat) : sgT s ks N (i + 64) = some (i + 64) := by
  unfold sgT
  rw [Nat.ble_eq_true_of_le (show 64 ≤ i + 64 by omega)]
  cases Nat.blt (i + 64) s <;> rfl

mutual
theorem mv_sh {σ : Nat → Option Nat} (h : ∀ i, σ (i + 64) = some (i + 64)) : ∀ (v : Value), mvV σ (mvV shU v) = mvV shU v
  | .bool _ => rfl
  | .int .. => rfl
  | .string _ => rfl
  | .pointer none => rfl
  | .pointer (some ⟨i, o, s⟩) => by simp only [mvV, shU, h]
  | .slice none _ _ => rfl
  | .slice (some ⟨i, o, s⟩) n m => by simp only [mvV, shU, h]
  | .map none => rfl
  | .map (some i) => by simp only [mvV, shU, h]
  | .nilFunc => rfl
  | .nilIface => rfl
  | .iface t v => by simp only [mvV]; rw [mv_sh h v]
  | .agg ⟨l⟩ => by simp only [mvV, mvV.go]; rw [mvL_sh h l]
  | .tuple ⟨l⟩ => by simp only [mvV, mvV.go]; rw [mvL_sh h l]
  | .float .. => rfl
  | .complex .. => rfl
  | .chan _ => rfl
  | .func (.yield i) ⟨a⟩ ⟨c⟩ => by simp only [mvV, mvV.go, shU, h]; rw [mvL_sh h a, mvL_sh h c]
  | .func (.func f) ⟨a⟩ ⟨c⟩ => by simp only [mvV, mvV.go]; rw [mvL_sh h a, mvL_sh h c]
  | .func (.method m) ⟨a⟩ ⟨c⟩ => by simp only [mvV, mvV.go]; rw [mvL_sh h a, mvL_sh h c]
  | .func (.methodOf t m) ⟨a⟩ ⟨c⟩ => by simp only [mvV, mvV.go]; rw [mvL_sh h a, mvL_sh h c]
  | .func (.via t p f q) ⟨a⟩ ⟨c⟩ => by simp only [mvV, mvV.go]; rw [mvL_sh h a, mvL_sh h c]
theorem mvL_sh {σ : Nat → Option Nat} (h : ∀ i, σ (i + 64) = some (i + 64)) : ∀ (l : List Value), mvV.goL σ (mvV.goL shU l) = mvV.goL shU l
  | [] => rfl
  | v :: l => by
    show mvV σ (mvV shU v) :: mvV.goL σ (mvV.goL shU l) = _
    rw [mv_sh h v, mvL_sh h l]
    rfl
end
theorem mvO_sh {σ : Nat → Option Nat} (h : ∀ i, σ (i + 64) = some (i + 64)) (o : IObj) : mvO σ (mvO shU o) = mvO shU o := by
  cases o with
  | cells cs rw => simp only [mvO]; rw [mvL_sh h cs]
  | map es c =>
    simp only [mvO]
    congr 1
    unfold mvEs
    rw [List.map_map]
    exact List.map_congr_left fun e he => by
      show { e with val := mvV σ (mvV shU e.val) } = { e with val := mvV shU e.val }
      rw [mv_sh h]
  | loop st pend fn tm nt ps a b =>
    simp only [mvO]
    congr 1
    induction tm with
    | nil => rfl
    | cons x tm ih => obtain ⟨t, v⟩ := x; simp only [mvEnv]; rw [ih, mv_sh h]
  | mapIter m s n c =>
    cases m with
    | none => rfl
    | some i => simp only [mvO, shU, h]
  | dead => rfl
  | free => rfl
theorem map_sh {σ : Nat → Option Nat} (h : ∀ i, σ (i + 64) = some (i + 64)) (H : IHeap) : (H.map (mvO shU)).map (mvO σ) = H.map (mvO shU) :=
  ups_map fun o ho => by obtain ⟨o', _, rfl⟩ := List.mem_map.1 ho; exact mvO_sh h o'

/-- Slots from s on are given up; the caller's heap is as it was. -/
theorem move_drop {r : Root} {s : Nat} {env env2 : Env} {l l2 : List IObj} {H : IHeap} (hm : r.m = 64 + H.length) (hs : s ≤ 64)
    (hl : ∀ j, j < s → LessO (mvO (sgT s [] (64 + H.length)) (l.getD j .free)) (l2.getD j .free)) (he : EnvLess (sgT s [] (64 + H.length)) env env2) :
    ∃ σ τ, Move r.m env (pad 64 l (H.map (mvO shU))) env2 (pad 64 l2 (H.map (mvO shU))) σ τ := by
  have h := Move.slots (m := r.m) (s := s) (ks := []) (env := env) (env2 := env2) (l := l) (l2 := l2) (base := H.map (mvO shU)) (base2 := H.map (mvO shU)) (objs := []) (by rw [List.length_map]; omega) hs (by simp) rfl (by rw [List.length_map]; exact hl)
    (by rw [map_sh (sgT_sh _ _ _)]; exact LessOs.refl _) trivial (by rw [List.length_map]; exact he.lk)
  rw [List.append_nil] at h
  exact ⟨_, _, h⟩

/-- Slots below s, one by one. -/
def SlotsLess (σ : Nat → Option Nat) : Nat → List IObj → List IObj → Prop
  | 0, _, _ => True
  | n + 1, [], [] => True
  | n + 1, [], o :: b => LessO .free o ∧ SlotsLess σ n [] b
  | n + 1, o :: a, [] => LessO (mvO σ o) .free ∧ SlotsLess σ n a []
  | n + 1, o :: a, o' :: b => LessO (mvO σ o) o' ∧ SlotsLess σ n a b
theorem SlotsLess.get {σ : Nat → Option Nat} : ∀ {n : Nat} {a b : List IObj}, SlotsLess σ n a b → ∀ j, j < n → LessO (mvO σ (a.getD j .free)) (b.getD j .free)
  | 0, _, _, _, j, h => by omega
  | n + 1, [], [], _, j, h => LessO.refl _
  | n + 1, [], o :: b, h, 0, _ => h.1
  | n + 1, [], o :: b, h, j + 1, hj => h.2.get j (by omega)
  | n + 1, o :: a, [], h, 0, _ => h.1
  | n + 1, o :: a, [], h, j + 1, hj => h.2.get j (by omega)
  | n + 1, o :: a, o' :: b, h, 0, _ => h.1
  | n + 1, o :: a, o' :: b, h, j + 1, hj => by have := h.2.get j (by omega); simpa using this

theorem LessO.same {σ : Nat → Option Nat} {o : IObj} (h : mvO σ o = o) : LessO (mvO σ o) o := by rw [h]; exact LessO.refl _
theorem LessO.plain {σ : Nat → Option Nat} {o : IObj} (h : plainO o = true) : LessO (mvO σ o) o := LessO.same (mvO_plain σ h)
theorem Less.same {σ : Nat → Option Nat} {v u : Value} (h : mvV σ v = u) : Less (mvV σ v) u := by rw [h]; exact Less.refl _

/-! ### contracts of a few forms -/
/-- A result over a heap that stays. -/
def cR (ags : List Value) (pre : IHeap → Prop) (u : Value) : Ctr := fun args H K => args = ags ∧ pre H ∧ K u H
theorem cR_ok {P : Program} {g : FuncId} {ags : List Value} {pre : IHeap → Prop} {u : Value} (h : ∀ H, pre H → ICalls P g ags H (fun r H' => r = .ret u ∧ H' = H)) :
    ∀ args H K, cR ags pre u args H K → ICalls P g args H (fun e H' => ∃ v, e = .ret v ∧ K v H') := by
  rintro args H K ⟨rfl, hp, hk⟩
  exact (h H hp).mono fun e H' he => ⟨u, he.1, by rw [he.2]; exact hk⟩
/-- New objects behind the heap. -/
def cN (ags : List Value) (pre : IHeap → Prop) (u : Nat → Value) (objs : Nat → List IObj) : Ctr := fun args H K => args = ags ∧ pre H ∧ K (u H.length) (H ++ objs H.length)
theorem cN_ok {P : Program} {g : FuncId} {ags : List Value} {pre : IHeap → Prop} {u : Nat → Value} {objs : Nat → List IObj} (h : ∀ H, pre H → ICalls P g ags H (fun r H' => r = .ret (u H.length) ∧ H' = H ++ objs H.length)) :
    ∀ args H K, cN ags pre u objs args H K → ICalls P g args H (fun e H' => ∃ v, e = .ret v ∧ K v H') := by
  rintro args H K ⟨rfl, hp, hk⟩
  exact (h H hp).mono fun e H' he => ⟨_, he.1, by rw [he.2]; exact hk⟩
/-- A result that hangs on a number. -/
def cI (v0 : Value) (pre : Int → IHeap → Prop) (u : Int → Value) : Ctr := fun args H K =>
  match args with
  | [v, .int k n] => (v = v0 ∧ k = .i64) ∧ pre n H ∧ K (u n) H
  | _ => False
theorem cI_ok {P : Program} {g : FuncId} {v0 : Value} {pre : Int → IHeap → Prop} {u : Int → Value} (h : ∀ n H, pre n H → ICalls P g [v0, .int .i64 n] H (fun r H' => r = .ret (u n) ∧ H' = H)) :
    ∀ args H K, cI v0 pre u args H K → ICalls P g args H (fun e H' => ∃ v, e = .ret v ∧ K v H') := by
  intro args H K hc
  unfold cI at hc
  split at hc
  · obtain ⟨⟨rfl, rfl⟩, hp, hk⟩ := hc
    exact (h _ H hp).mono fun e H' he => ⟨_, he.1, by rw [he.2]; exact hk⟩
  · exact hc.elim

end Ide
