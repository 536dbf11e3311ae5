/- A reckoner over variables: what code without loops comes to, as a proposition that is laid open by the text alone. -/
import Derived.Test.YtjjnlbceoajllaaGreatIdeZf
set_option linter.unusedVariables false
set_option linter.unusedSimpArgs false
namespace Ide
open Go Go.RowKit

theorem Det.mono {α : Type} {F : (α → Prop) → Prop} (h : Det F) {K K' : α → Prop} (hk : ∀ v, K v → K' v) (hf : F K) : F K' := let ⟨v, h1, h2⟩ := h K hf; h2 K' (hk v h1)

/-- What may be called: a call comes to a value and a heap for which K holds. -/
abbrev SCall := FuncId → List Value → IHeap → (Value → IHeap → Prop) → Prop

def SOk (P : Program) (sc : SCall) : Prop := ∀ g args H K, sc g args H K → ICalls P g args H (fun e H' => ∃ v, e = .ret v ∧ K v H')

/-- Nothing may be called. -/
def sc0 : SCall := fun _ _ _ _ => False
theorem sc0_ok {P : Program} : SOk P sc0 := fun g args H K h => h.elim

/-- The cells of some types, from a place on: they are there, whatever they are. -/
def ldKs (P : Program) (cs : List Value) : List TypeId → Nat → (List Value → Prop) → Prop
  | [], _, K => K []
  | t :: ts, o, K =>
    match P.underlying t with
    | some (.int k) => ∃ n, cs[o]? = some (.int k n) ∧ ldKs P cs ts (o + 1) fun vs => K (.int k n :: vs)
    | some .bool => ∃ b, cs[o]? = some (.bool b) ∧ ldKs P cs ts (o + 1) fun vs => K (.bool b :: vs)
    | some .string => ∃ s, cs[o]? = some (.string s) ∧ ldKs P cs ts (o + 1) fun vs => K (.string s :: vs)
    | _ => False

theorem ldKs_sound {P : Program} {cs : List Value} : ∀ (ts : List TypeId) (o : Nat) (K : List Value → Prop), ldKs P cs ts o K → ∃ vs, vs.length = ts.length ∧ (∀ j v, vs[j]? = some v → cs[o + j]? = some v) ∧ K vs
  | [], o, K, h => ⟨[], rfl, fun j v h => by simp at h, h⟩
  | t :: ts, o, K, h => by
    have step : ∀ (v : Value), cs[o]? = some v → ldKs P cs ts (o + 1) (fun vs => K (v :: vs)) → ∃ vs, vs.length = (t :: ts).length ∧ (∀ j v, vs[j]? = some v → cs[o + j]? = some v) ∧ K vs := by
      intro v hv hk
      obtain ⟨vs, h1, h2, h3⟩ := ldKs_sound ts (o + 1) _ hk
      refine ⟨v :: vs, by simp [h1], fun j u hj => ?_, h3⟩
      cases j with
      | zero => simp at hj; rw [← hj]; exact hv
      | succ j =>
        have := h2 j u (by simpa using hj)
        rw [show o + (j + 1) = o + 1 + j by omega]
        exact this
    simp only [ldKs] at h
    split at h
    · obtain ⟨n, h1, h2⟩ := h; exact step _ h1 h2
    · obtain ⟨n, h1, h2⟩ := h; exact step _ h1 h2
    · obtain ⟨n, h1, h2⟩ := h; exact step _ h1 h2
    · exact h.elim

/-- A load: of what is there to be seen, or, of hinted ones, of cells of which only the types are. -/
def sload (P : Program) (hint : Bool) (t : TypeId) (H : IHeap) (i o : Nat) (K : Value → Prop) : Prop :=
  match H[i]? with
  | some (.cells cs _) =>
    (match hint with
    | true =>
      (match flat P 10 t with
      | some l =>
        bif Nat.ble 1 (ssz P t) && Nat.beq l.length (ssz P t) then
          (match isAggT P t with
          | true => ldKs P cs l o fun vs => K (.agg ⟨vs⟩)
          | false => ldKs P cs [t] o fun vs => (match vs with | [v] => K v | _ => False))
        else False
      | none => False)
    | false =>
      (match P.underlying t with
      | some (.struct _) => bif Nat.ble (o + ssz P t) cs.length then K (.agg ⟨(cs.drop o).take (ssz P t)⟩) else False
      | some (.array _ _) => bif Nat.ble (o + ssz P t) cs.length then K (.agg ⟨(cs.drop o).take (ssz P t)⟩) else False
      | some d => (match cs[o]? with | some v => bif noAgg v then shaped (some d) v K else False | none => False)
      | none => False))
  | _ => False

theorem bifF {b : Bool} {X : Prop} (h : bif b then X else False) : b = true ∧ X := by cases b with | true => exact ⟨rfl, h⟩ | false => exact h.elim

theorem sload_sound {P : Program} {hint : Bool} {t : TypeId} {H : IHeap} {i o : Nat} {K : Value → Prop} (h : sload P hint t H i o K) : load P t H i o K := by
  unfold sload at h
  split at h
  · rename_i cs rw' hH
    have hcell : ∀ j, cellAt H i j = cs[j]? := fun j => by unfold cellAt; rw [hH]
    split at h
    · split at h
      · rename_i l hl
        obtain ⟨hb, h⟩ := bifF h
        simp only [Bool.and_eq_true] at hb
        have hpos := Nat.le_of_ble_eq_true hb.1
        have hlen := Nat.eq_of_beq_eq_true hb.2
        have hst : ∀ t, ldKs P cs [t] o (fun vs => (match vs with | [v] => K v | _ => False)) → (P.underlying t = some (.struct #[]) → False) → load P t H i o K := by
          intro t h _
          simp only [ldKs] at h
          unfold load
          split at h
          · rename_i k hu; obtain ⟨n, h1, h2⟩ := h; simp only [hu]; exact ⟨n, (hcell o).trans h1, h2⟩
          · rename_i hu; obtain ⟨n, h1, h2⟩ := h; simp only [hu]; exact ⟨n, (hcell o).trans h1, h2⟩
          · rename_i hu; obtain ⟨n, h1, h2⟩ := h; simp only [hu]; exact ⟨n, (hcell o).trans h1, h2⟩
          · exact h.elim
        split at h
        · rename_i ha
          obtain ⟨vs, h1, h2, h3⟩ := ldKs_sound l o _ h
          have hall : cellsAt H i o (ssz P t) = some vs := by
            unfold cellsAt
            rw [hH]
            simp only
            have hvs : ∀ j, j < vs.length → cs[o + j]? = vs[j]? := fun j hj => by rw [List.getElem?_eq_getElem hj]; exact h2 j _ (List.getElem?_eq_getElem hj)
            have hle : o + ssz P t ≤ cs.length := by
              cases hs : vs.length with
              | zero => omega
              | succ k =>
                have := hvs k (by omega)
                rw [List.getElem?_eq_getElem (by omega : k < vs.length)] at this
                have := (List.getElem?_eq_some_iff.1 this).1
                omega
            rw [if_pos hle]
            congr 1
            apply List.ext_getElem?
            intro j
            rw [List.getElem?_take]
            by_cases hj : j < ssz P t
            · rw [if_pos hj, List.getElem?_drop]; exact hvs j (by omega)
            · rw [if_neg hj, List.getElem?_eq_none (by omega)]
          unfold isAggT at ha
          unfold load
          split at ha
          · rename_i fs hu; simp only [hu]; exact ⟨vs, hall, h3⟩
          · rename_i n e hu; simp only [hu]; exact ⟨vs, hall, h3⟩
          · cases ha
        · exact hst t h (fun _ => by rename_i ha hu; simp [isAggT, hu] at ha)
      · exact h.elim
    · have agg : ∀ n, (bif Nat.ble (o + n) cs.length then K (.agg ⟨(cs.drop o).take n⟩) else False) → ldA H i o n fun cs => K (.agg ⟨cs⟩) := by
        intro n h
        obtain ⟨hb, h⟩ := bifF h
        refine ⟨(cs.drop o).take n, ?_, h⟩
        unfold cellsAt
        rw [hH]
        exact if_pos (Nat.le_of_ble_eq_true hb)
      unfold load
      split at h
      · rename_i fs hu; simp only [hu]; exact agg _ h
      · rename_i n e hu; simp only [hu]; exact agg _ h
      · rename_i d h1 h2 hu
        split at h
        · rename_i v hv
          obtain ⟨hna, h⟩ := bifF h
          have hc := (hcell o).trans hv
          rw [hu]
          cases d with
          | int k =>
            simp only [shaped, isI] at h
            split at h
            · obtain ⟨hk, h⟩ := bifF h
              have := kbeq_eq hk
              subst this
              exact ⟨_, hc, h⟩
            · exact h.elim
          | bool => simp only [shaped, isB] at h; split at h; · exact ⟨_, hc, h⟩
                    · exact h.elim
          | string => simp only [shaped, isS] at h; split at h; · exact ⟨_, hc, h⟩
                      · exact h.elim
          | pointer e => simp only [shaped, isP] at h; split at h; · exact ⟨_, hc, h⟩
                         · exact h.elim
          | slice e => simp only [shaped, isL] at h; split at h; · exact ⟨_, _, _, hc, h⟩
                       · exact h.elim
          | map a b => simp only [shaped, isM] at h; split at h; · exact ⟨_, hc, h⟩
                       · exact h.elim
          | struct fs => exact (h1 _ rfl).elim
          | array n e => exact (h2 _ _ rfl).elim
          | _ => exact ⟨v, hc, hna, h⟩
        · exact h.elim
      · exact h.elim
  · exact h.elim

def sst (P : Program) (t : TypeId) (H : IHeap) (i o : Nat) (v : Value) (K : IHeap → Prop) : Prop :=
  match H[i]?, vcells v with
  | some (.cells cs true), some vs =>
    bif Nat.ble 1 (ssz P t) && Nat.beq vs.length (ssz P t) && vs.all okCell && Nat.ble (o + vs.length) cs.length then K (H.set i (.cells (splice cs o vs) true)) else False
  | _, _ => False
theorem sst_sound {P : Program} {t : TypeId} {H : IHeap} {i o : Nat} {v : Value} {K : IHeap → Prop} (h : sst P t H i o v K) : stV P t H i o v K := by
  unfold sst at h
  split at h
  · rename_i cs vs hH hv
    obtain ⟨hb, h⟩ := bifF h
    simp only [Bool.and_eq_true] at hb
    unfold stV
    simp only [hv, hb.1.1.1, cond_true]
    exact ⟨⟨Nat.eq_of_beq_eq_true hb.1.1.2, hb.1.2⟩, cs, hH, Nat.le_of_ble_eq_true hb.2, h⟩
  · exact h.elim

def sbin (P : Program) (op : BinOp) (t : TypeId) (x y : Value) (K : Value → Prop) : Prop :=
  match x, y with
  | .int k a, .int k' b =>
    (match op with
    | .shl => binOp P op t x y K
    | .shr => binOp P op t x y K
    | op => bif kbeq k k' then intBin op k a b K else False)
  | x, y => binOp P op t x y K
theorem sbin_sound {P : Program} {op : BinOp} {t : TypeId} {x y : Value} {K : Value → Prop} (h : sbin P op t x y K) : binOp P op t x y K := by
  unfold sbin at h
  split at h
  · rename_i k a k' b
    split at h
    · exact h
    · exact h
    · rename_i h1 h2
      obtain ⟨hb, h3⟩ := bifF h
      clear h
      have := kbeq_eq hb
      subst this
      unfold binOp
      cases op <;> first | exact (h1 rfl).elim | exact (h2 rfl).elim | exact ⟨rfl, h3⟩
  · exact h

def sbuildSlice (P : Program) (t : TypeId) (len : Nat) (ps : List (Nat × Value)) (H : IHeap) (K : Value → IHeap → Prop) : Prop :=
  match P.underlying t with
  | some (.slice e) =>
    (match zeroOf P e with
    | some zs =>
      bif Nat.beq zs.length (ssz P e) && Nat.ble 1 (ssz P e) && Nat.ble (len * ssz P e) 16777216 then
        (match xfill (fun i => some (i * ssz P e, ssz P e)) (repeatL len zs) ps with
        | some cs => K (.slice (some ⟨H.length, 0, some (2 * ssz P e + 1)⟩) len len) (H ++ [.cells cs true])
        | none => False)
      else False
    | none => False)
  | _ => False

def hintd (hs : List Nat) (d : Option Nat) : Bool :=
  match d with
  | some t => memN t hs
  | none => false

def sop (P : Program) (hs : List Nat) (sc : SCall) (o : Oper) (env : Env) (H : IHeap) (K : Value → IHeap → Prop) (Qp : Value → IHeap → Prop) : Prop :=
  match o.op with
  | .move x => K (iev env x) H
  | .assign x => K (iev env x) H
  | .pick c a b =>
    (match iev env c with
    | .bool c => pickV c (iev env a) (iev env b) fun v => K v H
    | _ => False)
  | .alloc t => alloc P t H K
  | .box t x => box (iev env x) H K
  | .build t ps => (match xbuild P t (ps.toList.map fun p => (p.1, iev env p.2)) with | some v => K v H | none => False)
  | .buildSlice t n ps => sbuildSlice P t n (ps.toList.map fun p => (p.1, iev env p.2)) H K
  | .load t a => ptrAt (iev env a) fun i f => sload P (hintd hs o.dst) t H i f fun v => K v H
  | .store t a x => ptrAt (iev env a) fun i f => sst P t H i f (iev env x) fun H' => K anyV H'
  | .nilCheck x =>
    (match iev env x with
    | .pointer a => pcase a fun i f => K (ptrTo i f) H
    | .func f a b => K (.func f a b) H
    | _ => False)
  | .binOp op t x y _ => sbin P op t (iev env x) (iev env y) fun v => K v H
  | .unOp op _ x => unOp op (iev env x) fun v => K v H
  | .convert s d x => convert P s d (iev env x) fun v => K v H
  | .makeFunc (.func f) first cap => K (.func (.func f) ⟨first.toList.map (iev env)⟩ ⟨cap.toList.map (iev env)⟩) H
  | .makeMap _ none => K (.map (some H.length)) (H ++ [.map [] 0])
  | .slice t x lo hi mx => slice P t H (iev env x) (lo.map (iev env)) (hi.map (iev env)) (mx.map (iev env)) fun v => K v H
  | .fieldAddr t x f => fieldAddr P t (iev env x) f fun v => K v H
  | .indexAddr t x i => indexAddr P t (iev env x) (iev env i) fun v => K v H
  | .extract x i => extractOf (iev env x) i fun v => K v H
  | .call { callee := .value f, args := ⟨as⟩, .. } =>
    (match iev env f with
    | .func (.func g) ⟨first⟩ ⟨cap⟩ => sc g (first ++ as.map (iev env) ++ cap) H fun v H' => result P o.type v fun v => K v H'
    | _ => False)
  | .call { callee := .builtin .len, args := ⟨x :: _⟩, argTypes := ⟨t :: _⟩ } => lenOf P t H (iev env x) fun v => K v H
  | .call { callee := .builtin .min, args := ⟨as⟩, argTypes := ⟨_ :: _⟩ } => minMax false (as.map (iev env)) fun v => K v H
  | .call { callee := .builtin .max, args := ⟨as⟩, argTypes := ⟨_ :: _⟩ } => minMax true (as.map (iev env)) fun v => K v H
  | _ => False

theorem parts_mono {P : Program} {K K' : List Value → Prop} (hk : ∀ v, K v → K' v) : ∀ (ts : List TypeId) (vs acc : List Value), parts P ts vs acc K → parts P ts vs acc K'
  | [], vs, acc, h => by cases vs with | nil => exact hk _ h | cons v vs => exact h
  | t :: ts, vs, acc, h => by
    cases vs with
    | nil => exact h
    | cons v vs =>
      simp only [parts, hd] at h ⊢
      exact det_shaped.mono (fun v h => parts_mono hk ts vs _ h) h

theorem result_mono {P : Program} {t : TypeId} {v : Value} {K K' : Value → Prop} (hk : ∀ v, K v → K' v) (h : result P t v K) : result P t v K' := by
  unfold result at h ⊢
  generalize P.underlying t = d at h ⊢
  cases d with
  | none => exact det_shaped.mono hk h
  | some d =>
    cases d with
    | tuple ts =>
      obtain ⟨ts⟩ := ts
      simp only at h ⊢
      unfold isT at h ⊢
      cases v with
      | tuple vs => obtain ⟨vs⟩ := vs; exact parts_mono (fun vs h => hk _ h) _ _ _ h
      | _ => exact h.elim
    | _ => exact det_shaped.mono hk h

theorem sop_sound {P : Program} {hs : List Nat} {sc : SCall} (hsc : SOk P sc) {o : Oper} {env : Env} {H : IHeap} {K K' : Value → IHeap → Prop} {Qp : Value → IHeap → Prop} (hk : ∀ v H, K v H → K' v H) (h : sop P hs sc o env H K Qp) : iop P o env H K' Qp := by
  obtain ⟨dst, op, type, pos, after, guard⟩ := o
  have ptr : ∀ {v : Value} {F G : Nat → Nat → Prop}, ptrAt v F → (∀ i f, F i f → G i f) → ptrAt v G := by
    intro v F G h hFG
    unfold ptrAt at h ⊢
    split at h
    · unfold pcase at h ⊢
      split at h
      · exact hFG _ _ h
      · exact h
    · exact h
  cases op with
  | move x => exact hk _ _ h
  | assign x => exact hk _ _ h
  | pick c a b =>
    simp only [sop] at h
    simp only [iop]
    split at h
    · rename_i c' hc
      simp only [hc]
      exact det_pickV.mono (fun v h => hk v H h) h
    · exact h.elim
  | alloc t =>
    simp only [sop, alloc] at h
    simp only [iop, alloc]
    split at h
    · exact hk _ _ h
    · exact h
  | box t x =>
    simp only [sop, box] at h
    simp only [iop, box]
    split at h <;> first | exact hk _ _ h | exact h.elim
  | build t ps =>
    simp only [sop] at h
    split at h
    · rename_i v hv; exact xbuild_sound hv (K := fun v => K' v H) (hk _ _ h)
    · exact h.elim
  | buildSlice t n ps =>
    simp only [sop, sbuildSlice] at h
    simp only [iop, buildSlice]
    split at h
    · split at h
      · obtain ⟨hb, h⟩ := bifF h
        simp only [*, cond_true]
        split at h
        · rename_i cs hc; exact xfill_sound hc (hk _ _ h)
        · exact h.elim
      · exact h.elim
    · exact h.elim
  | load t a => exact ptr (v := iev env a) h fun i f h => (det_load.mono (fun v h => hk v H h) (sload_sound h))
  | store t a x =>
    refine ptr (v := iev env a) h fun i f h => ?_
    have h' := sst_sound h
    unfold stV at h' ⊢
    split at h'
    · obtain ⟨hb, h'⟩ := bifF h'
      simp only [hb, cond_true]
      obtain ⟨h1, cs, h2, h3, h4⟩ := h'
      exact ⟨h1, cs, h2, h3, hk _ _ h4⟩
    · exact h'.elim
  | nilCheck x =>
    simp only [sop] at h
    simp only [iop]
    generalize iev env x = v at h ⊢
    cases v with
    | pointer a =>
      simp only at h ⊢
      unfold pcase at h ⊢
      split at h
      · exact hk _ _ h
      · exact h.elim
    | func f a b => exact hk _ _ h
    | _ => exact h.elim
  | binOp op t x y z => exact det_binOp.mono (fun v h => hk v H h) (sbin_sound h)
  | unOp op t x => exact det_unOp.mono (fun v h => hk v H h) h
  | convert s d x => exact det_convert.mono (fun v h => hk v H h) h
  | makeFunc f first cap => cases f <;> first | exact hk _ _ h | exact h.elim
  | makeMap t r => cases r <;> first | exact hk _ _ h | exact h.elim
  | slice t x lo hi mx => exact det_slice.mono (fun v h => hk v H h) h
  | fieldAddr t x f => exact det_fieldAddr.mono (fun v h => hk v H h) h
  | indexAddr t x i => exact det_indexAddr.mono (fun v h => hk v H h) h
  | extract x i => exact det_extract.mono (fun v h => hk v H h) h
  | call c =>
    obtain ⟨callee, ⟨as⟩, ⟨tys⟩⟩ := c
    cases callee with
    | value f =>
      simp only [sop] at h
      show icallV P (iev env f) (as.map (iev env)) H (endK P type K' Qp)
      unfold icallV
      split at h
      · rename_i g first cap hf
        rw [hf]
        refine (hsc _ _ _ _ h).mono fun e H' he => ?_
        obtain ⟨v, rfl, hv⟩ := he
        exact result_mono (fun v h => hk v H' h) hv
      · exact h.elim
    | builtin b =>
      cases b with
      | len =>
        cases as with
        | nil => exact h.elim
        | cons x as =>
          cases tys with
          | nil => exact h.elim
          | cons t tys => exact det_lenOf.mono (fun v h => hk v H h) h
      | min =>
        cases tys with
        | nil => cases as <;> exact h.elim
        | cons t tys =>
          have h : minMax false (as.map (iev env)) (fun v => K v H) := by cases as <;> exact h
          have h2 := det_minMax.mono (K' := fun v => K' v H) (fun v h => hk v H h) h
          cases as <;> exact h2
      | max =>
        cases tys with
        | nil => cases as <;> exact h.elim
        | cons t tys =>
          have h : minMax true (as.map (iev env)) (fun v => K v H) := by cases as <;> exact h
          have h2 := det_minMax.mono (K' := fun v => K' v H) (fun v h => hk v H h) h
          cases as <;> exact h2
      | _ => cases as <;> cases tys <;> exact h.elim
    | invoke a b => cases as <;> cases tys <;> exact h.elim
  | _ => exact h.elim

theorem guarded_mono {all : List Oper} {g : Option (Nat × Bool)} {env : Env} {Y Y' N N' : Env → Prop} (hy : ∀ e, Y e → Y' e) (hn : ∀ e, N e → N' e) (h : guarded all g env Y N) : guarded all g env Y' N' := by
  unfold guarded at h ⊢
  cases g with
  | none => exact hy _ h
  | some p =>
    obtain ⟨j, want⟩ := p
    simp only at h ⊢
    generalize dstAt all j = d at h ⊢
    cases d with
    | none => exact hn _ h
    | some t =>
      simp only at h ⊢
      generalize lk env t = v at h ⊢
      cases v with
      | bool b =>
        simp only [bcase] at h ⊢
        cases b <;> cases want <;> first | exact hy _ h | exact hn _ h
      | tuple vs =>
        obtain ⟨vs⟩ := vs
        cases vs with
        | nil => exact hn _ h
        | cons v vs => exact h.elim
      | _ => exact h.elim

def srun (P : Program) (hs : List Nat) (sc : SCall) (all : List Oper) : List Oper → Env → IHeap → (Env → IHeap → Prop) → (Value → IHeap → Prop) → Prop
  | [], env, H, K, _ => K env H
  | o :: l, env, H, K, Qp =>
    guarded all o.guard env (fun env => sop P hs sc o env H (fun v H' => srun P hs sc all l (put env o.dst v) H' K Qp) Qp) (fun env => srun P hs sc all l (put env o.dst undef) H K Qp)

theorem srun_sound {P : Program} {hs : List Nat} {sc : SCall} (hsc : SOk P sc) {all : List Oper} {K : Env → IHeap → Prop} {Qp : Value → IHeap → Prop} : ∀ (l : List Oper) (env : Env) (H : IHeap), srun P hs sc all l env H K Qp → irun P all l env H K Qp
  | [], env, H, h => h
  | o :: l, env, H, h => guarded_mono (fun e h => sop_sound hsc (fun v H' h => srun_sound hsc l _ H' h) h) (fun e h => srun_sound hsc l _ H h) h

theorem watching_mono {bm : Nat} {H : IHeap} {X Y : Prop} (hxy : X → Y) : ∀ (ws : Watch), watching ws bm H X → watching ws bm H Y
  | [], h => hxy h
  | (k, w) :: r, h => by
    simp only [watching] at h ⊢
    cases hb : bm.testBit k with
    | true => rw [hb] at h; exact watching_mono hxy r h
    | false => rw [hb] at h; exact ⟨h.1, watching_mono hxy r h.2⟩

def srunD (P : Program) (hs : List Nat) (sc : SCall) (all : List Oper) (bs : List Nat) : List Nat → Env → IHeap → Watch → (Env → IHeap → Prop) → (Value → IHeap → Prop) → Prop
  | [], env, H, _, K, _ => K env H
  | i :: l, env, H, ws, K, Qp =>
    match all[i]? with
    | none => False
    | some o =>
      guarded all o.guard env
        (fun env => sop P hs sc o env H (fun v H' =>
          bif isActs o then watching ws (bs.getD i 0) H' (srunD P hs sc all bs l (put env o.dst v) H' ws K Qp)
          else srunD P hs sc all bs l (put env o.dst v) H' (watchOf i o env v H H' ++ ws) K Qp) Qp)
        (fun env => srunD P hs sc all bs l (put env o.dst undef) H ws K Qp)

theorem srunD_sound {P : Program} {hs : List Nat} {sc : SCall} (hsc : SOk P sc) {all : List Oper} {bs : List Nat} {K : Env → IHeap → Prop} {Qp : Value → IHeap → Prop} : ∀ (l : List Nat) (env : Env) (H : IHeap) (ws : Watch), srunD P hs sc all bs l env H ws K Qp → irunD P all bs l env H ws K Qp
  | [], env, H, ws, h => h
  | i :: l, env, H, ws, h => by
    cases ho : all[i]? with
    | none => simp only [srunD, ho] at h
    | some o =>
      simp only [srunD, ho] at h
      simp only [irunD, ho]
      refine guarded_mono (fun e h => sop_sound hsc (fun v H' h => ?_) h) (fun e h => srunD_sound hsc l _ H _ h) h
      cases ha : isActs o with
      | true => rw [ha] at h; exact watching_mono (fun h => srunD_sound hsc l _ H' _ h) _ h
      | false => rw [ha] at h; exact srunD_sound hsc l _ H' _ h

/-- Code without loops. -/
def sx (P : Program) (hs : List Nat) (sc : SCall) : Code → (IExit → Env → IHeap → Prop) → Env → IHeap → Prop
  | .skip, Q, env, H => Q .normal env H
  | .region _ ops false, Q, env, H => srun P hs sc ops.toList ops.toList env H (Q .normal) (fun v => Q (.panic v) [])
  | .region _ ops true, Q, env, H => srunD P hs sc ops.toList (befores ops.toList []) (canon ops.toList) env H [] (Q .normal) (fun v => Q (.panic v) [])
  | .seq a b, Q, env, H => sx P hs sc a (thn (fun env H => sx P hs sc b Q env H) Q) env H
  | .cond c a b, Q, env, H =>
    (match iev env c with
    | .bool t => bcase t (sx P hs sc a Q env H) (sx P hs sc b Q env H)
    | _ => False)
  | .block id a, Q, env, H => sx P hs sc a (inB id Q) env H
  | .exit id, Q, env, H => Q (.exit id) env H
  | .scope a, Q, env, H => sx P hs sc a Q env H
  | .label _, Q, env, H => Q .normal env H
  | .ret, Q, env, H => Q .ret env H
  | _, _, _, _ => False

theorem sx_sound {P : Program} {hs : List Nat} {sc : SCall} {nt : Nat} {ro : Option Nat} {rf : Bool} (hm : P.follows .mixedOrders = true) (hsc : SOk P sc) :
    ∀ (c : Code) (Q : IExit → Env → IHeap → Prop) (env : Env) (H : IHeap), codeOk P nt rf c = true → sx P hs sc c Q env H → IW ro P nt c Q env H := by
  intro c
  induction c with
  | skip => intro Q env H _ h n0 β w a S hT hM; exact wpIn_skip ⟨β, H, env, Step.refl _ _, S, hT, hM, h⟩
  | region id ops draws =>
    intro Q env H hok h
    cases draws with
    | false => exact region_sound hok (srun_sound hsc _ _ _ h)
    | true => exact draw_sound hm hok (srunD_sound hsc _ _ _ _ h)
  | seq x y ihx ihy =>
    intro Q env H hok h
    simp only [codeOk, Bool.and_eq_true] at hok
    refine seq_of (IW.mono (ihx _ _ _ hok.1 h) fun e env H hq => ?_)
    cases e with
    | normal => exact ihy _ _ _ hok.2 hq
    | exit id => exact hq
    | ret => exact hq
    | panic v => exact hq
  | cond c x y ihx ihy =>
    intro Q env H hok h
    simp only [codeOk, Bool.and_eq_true] at hok
    simp only [sx] at h
    split at h
    · rename_i t ht
      refine cond_of hok.1.1 ht ?_
      unfold bcase at h
      cases t with
      | true => exact ihx _ _ _ hok.1.2 h
      | false => exact ihy _ _ _ hok.2 h
    · exact h.elim
  | block id x ih => intro Q env H hok h; exact block_of (ih _ _ _ hok h)
  | scope x ih => intro Q env H hok h; exact scope_of (ih _ _ _ hok h)
  | exit id => intro Q env H _ h n0 β w a S hT hM; exact wpIn_exit ⟨β, H, env, Step.refl _ _, S, hT, hM, h⟩
  | label l => intro Q env H _ h n0 β w a S hT hM; exact wpIn_label ⟨β, H, env, Step.refl _ _, S, hT, hM, h⟩
  | ret => intro Q env H _ h n0 β w a S hT hM; exact wpIn_ret ⟨β, H, env, Step.refl _ _, S, hT, hM, h⟩
  | _ => intro Q env H _ h; exact h.elim

/-! ### parts of code, one after another -/
def spine : Code → List Code → List Code
  | .seq a b, acc => spine a (spine b acc)
  | c, acc => c :: acc

def IWL (ro : Option Nat) (P : Program) (nt : Nat) : List Code → (IExit → Env → IHeap → Prop) → Env → IHeap → Prop
  | [], Q, env, H => Q .normal env H
  | c :: cs, Q, env, H => IW ro P nt c (thn (fun env H => IWL ro P nt cs Q env H) Q) env H

theorem IWL.mono {ro : Option Nat} {P : Program} {nt : Nat} : ∀ (cs : List Code) {Q Q' : IExit → Env → IHeap → Prop} {env : Env} {H : IHeap}, (∀ e env H, Q e env H → Q' e env H) → IWL ro P nt cs Q env H → IWL ro P nt cs Q' env H
  | [], Q, Q', env, H, hq, h => hq _ _ _ h
  | c :: cs, Q, Q', env, H, hq, h => by
    refine IW.mono h fun e env H h => ?_
    cases e with
    | normal => exact IWL.mono cs hq h
    | exit id => exact hq _ _ _ h
    | ret => exact hq _ _ _ h
    | panic v => exact hq _ _ _ h

theorem iw_spine {ro : Option Nat} {P : Program} {nt : Nat} : ∀ (c : Code) (acc : List Code) {Q : IExit → Env → IHeap → Prop} {env : Env} {H : IHeap}, IWL ro P nt (spine c acc) Q env H → IW ro P nt c (thn (fun env H => IWL ro P nt acc Q env H) Q) env H := by
  intro c
  induction c with
  | seq a b iha ihb =>
    intro acc Q env H h
    refine seq_of (IW.mono (iha (spine b acc) h) fun e env H h => ?_)
    cases e with
    | normal => exact ihb acc h
    | exit id => exact h
    | ret => exact h
    | panic v => exact h
  | _ => intro acc Q env H h; exact h

theorem iw_of_spine {ro : Option Nat} {P : Program} {nt : Nat} {c : Code} {Q : IExit → Env → IHeap → Prop} {env : Env} {H : IHeap} (h : IWL ro P nt (spine c []) Q env H) : IW ro P nt c Q env H := by
  refine IW.mono (iw_spine c [] h) fun e env H h => ?_
  cases e <;> exact h

def sxl (P : Program) (hs : List Nat) (sc : SCall) : List Code → (IExit → Env → IHeap → Prop) → Env → IHeap → Prop
  | [], Q, env, H => Q .normal env H
  | c :: cs, Q, env, H => sx P hs sc c (thn (fun env H => sxl P hs sc cs Q env H) Q) env H

/-- Parts without loops, ahead of others. l: what is known further on. -/
theorem iwl_seg {P : Program} {hs : List Nat} {sc : SCall} {nt : Nat} {ro : Option Nat} {rf : Bool} (hm : P.follows .mixedOrders = true) (hsc : SOk P sc) (l : List Nat) :
    ∀ (A : List Code) (b : Code) (bs : List Code) {Q : IExit → Env → IHeap → Prop} {env : Env} {H : IHeap}, A.all (codeOk P nt rf) = true → sxl P hs sc A (thn (fun env H => IWL ro P nt (b :: bs) Q (keep l env) H) Q) env H → IWL ro P nt (A ++ b :: bs) Q env H
  | [], b, bs, Q, env, H, hok, h => IW.weaken h fun t => lk_keep l env t
  | c :: A, b, bs, Q, env, H, hok, h => by
    simp only [List.all_cons, Bool.and_eq_true] at hok
    refine IW.mono (sx_sound hm hsc c _ _ _ hok.1 h) fun e env H h => ?_
    cases e with
    | normal => exact iwl_seg hm hsc l A b bs hok.2 h
    | exit id => exact h
    | ret => exact h
    | panic v => exact h

/-- The last parts. -/
theorem iwl_last {P : Program} {hs : List Nat} {sc : SCall} {nt : Nat} {ro : Option Nat} {rf : Bool} (hm : P.follows .mixedOrders = true) (hsc : SOk P sc) :
    ∀ (A : List Code) {Q : IExit → Env → IHeap → Prop} {env : Env} {H : IHeap}, A.all (codeOk P nt rf) = true → sxl P hs sc A Q env H → IWL ro P nt A Q env H
  | [], Q, env, H, hok, h => h
  | c :: A, Q, env, H, hok, h => by
    simp only [List.all_cons, Bool.and_eq_true] at hok
    refine IW.mono (sx_sound hm hsc c _ _ _ hok.1 h) fun e env H h => ?_
    cases e with
    | normal => exact iwl_last hm hsc A hok.2 h
    | exit id => exact h
    | ret => exact h
    | panic v => exact h

end Ide
