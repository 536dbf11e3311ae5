/- Regions whose order is open. -/
import Derived.Test.YtjjnlbceoajllaaGreatIdeP
set_option linter.unusedVariables false
set_option linter.unusedSimpArgs false
namespace Ide
open Go Go.RowKit

/-! ### what is asked of the text -/
def readsB (all : List Oper) (o : Oper) (t : Nat) : Bool :=
  o.op.operands.toList.any (fun x => match x with | .tmp s => Nat.beq s t | _ => false) ||
  (match o.guard with | some (j, _) => (match dstAt all j with | some s => Nat.beq s t | none => false) | none => false)

def dstIs (p : Oper) (t : Nat) : Bool := match p.dst with | some s => Nat.beq s t | none => false

/-- The temporaries of i, against what j writes. -/
def pairOk (all : List Oper) (bs : List Nat) (i : Nat) (o : Oper) (j : Nat) (p : Oper) : Bool :=
  match p.dst with
  | none => true
  | some t => bif Nat.beq i j then !readsB all o t else !dstIs o t && (!readsB all o t || (bs.getD i 0).testBit j || ((bs.getD j 0).testBit i && isActs p))

def allIdx (f : Nat → Oper → Bool) : Nat → List Oper → Bool
  | _, [] => true
  | i, o :: l => f i o && allIdx f (i + 1) l

theorem allIdx_spec {f : Nat → Oper → Bool} : ∀ {l : List Oper} {k : Nat}, allIdx f k l = true → ∀ i o, l[i]? = some o → f (k + i) o = true
  | [], _, _, i, o, h => by simp at h
  | x :: l, k, h, i, o, hi => by
    have h' : f k x = true ∧ allIdx f (k + 1) l = true := by simpa [allIdx] using h
    cases i with
    | zero => simp at hi; subst hi; exact h'.1
    | succ i => have := allIdx_spec h'.2 i o (by simpa using hi); rwa [show k + 1 + i = k + (i + 1) by omega] at this

def opOk (P : Program) (nt : Nat) (all : List Oper) (bs : List Nat) (i : Nat) (o : Oper) : Bool :=
  okOper nt o && (isActs o || plainOp P o.op) && o.after.toList.all (fun e => !Region.binds .any e || Nat.blt e.on i) &&
  (match o.guard with | some (j, _) => (bs.getD i 0).testBit j | none => true) && allIdx (pairOk all bs i o) 0 all

def canonOk (all : List Oper) (bs : List Nat) : List Nat → Nat → Bool
  | [], d => (List.range all.length).all (fun i => d.testBit i)
  | i :: r, d => !d.testBit i && bitsIn (bs.getD i 0) d &&
      (match all[i]? with | some o => !isActs o || r.all (fun j => (bs.getD j 0).testBit i) | none => false) && canonOk all bs r (d ||| 2 ^ i)

def drawOk (P : Program) (nt : Nat) (all : List Oper) : Bool :=
  allIdx (opOk P nt all (befores all [])) 0 all && canonOk all (befores all []) (canon all) 0

/-! ### what is ahead of what -/
theorem fold_bits {acc : List Nat} (j : Nat) : ∀ (es : List Edge) (s : Nat),
    (es.foldl (fun s e => bif Region.binds .any e then s ||| 2 ^ e.on ||| acc.getD e.on 0 else s) s).testBit j = true ↔
      s.testBit j = true ∨ ∃ e ∈ es, Region.binds .any e = true ∧ (e.on = j ∨ (acc.getD e.on 0).testBit j = true)
  | [], s => by simp
  | e :: es, s => by
    rw [List.foldl_cons, fold_bits j es]
    cases hb : Region.binds .any e with
    | false => simp [hb]
    | true =>
      simp only [cond_true, Nat.testBit_or, Bool.or_eq_true, Nat.testBit_two_pow, decide_eq_true_eq]
      simp only [List.mem_cons, exists_eq_or_imp, hb, true_and]
      constructor
      · rintro (((h | h) | h) | h)
        · exact .inl h
        · exact .inr (.inl (.inl h))
        · exact .inr (.inl (.inr h))
        · exact .inr (.inr h)
      · rintro (h | (h | h) | h)
        · exact .inl (.inl (.inl h))
        · exact .inl (.inl (.inr h))
        · exact .inl (.inr h)
        · exact .inr h

def bf (bs : List Nat) (i j : Nat) : Prop := (bs.getD i 0).testBit j = true

theorem befores_length : ∀ (l : List Oper) (acc : List Nat), (befores l acc).length = acc.length + l.length
  | [], acc => by simp [befores]
  | o :: l, acc => by rw [befores, befores_length l]; simp; omega

theorem befores_get : ∀ (l : List Oper) (acc : List Nat) (i : Nat), i < acc.length → (befores l acc).getD i 0 = acc.getD i 0
  | [], acc, i, _ => rfl
  | o :: l, acc, i, h => by
    rw [befores, befores_get l _ i (by simp; omega)]
    simp only [List.getD_eq_getElem?_getD]
    rw [List.getElem?_append_left h]

/-- The bits of an operation are its edges' ends and their bits. -/
theorem befores_spec : ∀ (l pre : List Oper) (acc : List Nat), acc.length = pre.length → (∀ i o, (pre ++ l)[i]? = some o → pre.length ≤ i → ∀ e ∈ o.after.toList, Region.binds .any e = true → e.on < i) →
    ∀ i o, (pre ++ l)[i]? = some o → pre.length ≤ i → ∀ j, bf (befores l acc) i j ↔ ∃ e ∈ o.after.toList, Region.binds .any e = true ∧ (e.on = j ∨ bf (befores l acc) e.on j)
  | [], pre, acc, hl, hb, i, o, ho, hi, j => by
    have := get_lt ho; simp at this; omega
  | x :: l, pre, acc, hl, hb, i, o, ho, hi, j => by
    rw [befores]
    rcases Nat.lt_or_ge pre.length i with h | h
    · refine befores_spec l (pre ++ [x]) _ (by simp [hl]) (fun i o ho hi => hb i o (by simpa using ho) (by simp at hi; omega)) i o (by simpa using ho) (by simp; omega) j
    · have e : i = pre.length := by omega
      have hx : o = x := by
        rw [e] at ho
        simp at ho
        exact ho.symm
      subst hx
      have hlt : i < (acc ++ [o.after.toList.foldl (fun s e => bif Region.binds .any e then s ||| 2 ^ e.on ||| acc.getD e.on 0 else s) 0]).length := by simp [hl]; omega
      have hthis : (befores l (acc ++ [o.after.toList.foldl (fun s e => bif Region.binds .any e then s ||| 2 ^ e.on ||| acc.getD e.on 0 else s) 0])).getD i 0 = o.after.toList.foldl (fun s e => bif Region.binds .any e then s ||| 2 ^ e.on ||| acc.getD e.on 0 else s) 0 := by
        rw [befores_get l _ i hlt]
        simp only [List.getD_eq_getElem?_getD]
        rw [List.getElem?_append_right (by omega), e, hl]
        simp
      have hbits : bf (befores l (acc ++ [o.after.toList.foldl (fun s e => bif Region.binds .any e then s ||| 2 ^ e.on ||| acc.getD e.on 0 else s) 0])) i j ↔
          ∃ e ∈ o.after.toList, Region.binds .any e = true ∧ (e.on = j ∨ (acc.getD e.on 0).testBit j = true) := by
        unfold bf
        rw [hthis, fold_bits]
        simp
      rw [hbits]
      have hone : ∀ ed ∈ o.after.toList, Region.binds .any ed = true → acc.getD ed.on 0 = (befores l (acc ++ [o.after.toList.foldl (fun s e => bif Region.binds .any e then s ||| 2 ^ e.on ||| acc.getD e.on 0 else s) 0])).getD ed.on 0 := by
        intro ed hed hbd
        have := hb i o ho hi ed hed hbd
        rw [befores_get l _ _ (by simp; omega)]
        simp only [List.getD_eq_getElem?_getD]
        rw [List.getElem?_append_left (by omega)]
      constructor
      · rintro ⟨ed, h1, h2, h3⟩
        refine ⟨ed, h1, h2, ?_⟩
        unfold bf
        rw [← hone ed h1 h2]
        exact h3
      · rintro ⟨ed, h1, h2, h3⟩
        refine ⟨ed, h1, h2, ?_⟩
        unfold bf at h3
        rw [← hone ed h1 h2] at h3
        exact h3

theorem bitsIn_spec {a b : Nat} (h : bitsIn a b = true) {j : Nat} (hj : a.testBit j = true) : b.testBit j = true := by
  unfold bitsIn at h
  have := Nat.eq_of_beq_eq_true h
  rw [← this] at hj
  rw [Nat.testBit_and] at hj
  simp at hj
  exact hj.2

theorem canonOk_all {all : List Oper} {bs : List Nat} : ∀ {c : List Nat} {d : Nat}, canonOk all bs c d = true → ∀ i, i < all.length → d.testBit i = false → i ∈ c
  | [], d, h, i, hi, hd => by
    have := List.all_eq_true.1 h i (by simpa using hi)
    rw [hd] at this; cases this
  | x :: c, d, h, i, hi, hd => by
    simp only [canonOk, Bool.and_eq_true] at h
    by_cases e : i = x
    · subst e; simp
    · refine List.mem_cons_of_mem _ (canonOk_all h.2 i hi ?_)
      rw [Nat.testBit_or, hd, Nat.testBit_two_pow]
      simp; exact fun e' => e e'.symm

theorem canonOk_not {all : List Oper} {bs : List Nat} : ∀ {c : List Nat} {d : Nat}, canonOk all bs c d = true → ∀ i ∈ c, d.testBit i = false
  | [], d, h, i, hi => by cases hi
  | x :: c, d, h, i, hi => by
    simp only [canonOk, Bool.and_eq_true, Bool.not_eq_true'] at h
    rcases List.mem_cons.1 hi with rfl | hi
    · exact h.1.1.1
    · have := canonOk_not h.2 i hi
      rw [Nat.testBit_or] at this
      simp at this
      exact this.1

end Ide
