/- Ends of sessions, as values; the small functions. -/
import Derived.Test.YtoikiogaiikheaaIdeZh
import Derived.Test.YtoikiogaiikheaaProg
set_option linter.unusedVariables false
set_option linter.unusedSimpArgs false
set_option maxRecDepth 10000
namespace Go.Proofs.Ytoikiogaiikheaa.Sess
open Go Go.RowKit Ide Go.Proofs

noncomputable abbrev Pr : Program := Try.prog
theorem mixed : Pr.follows .mixedOrders = true := by kernel_rfl

structure SE where
  life : Int
  peer : Int
  phase : Int
  base : Int
  want : Int
  oz : Bool
  iz : Bool
  outs : List (ByteArray × Bool)
  ins : List (Int × ByteArray)

def outC (l : List (ByteArray × Bool)) : List Value := l.flatMap fun x => [.string x.1, .bool x.2]
def inC (l : List (Int × ByteArray)) : List Value := l.flatMap fun x => [.int .i64 x.1, .string x.2]
def adr (z : Bool) (i : Nat) : Option Addr := match z with | true => none | false => some ⟨i, 0, some 4⟩
def endW (e : SE) (a1 a2 : Option Addr) : List Value := [.int .i64 e.life, .int .i64 e.peer, .int .i64 e.phase, .int .i64 e.base, .slice a1 e.outs.length e.outs.length, .int .i64 e.want, .slice a2 e.ins.length e.ins.length]
def endV (e : SE) : Value := .agg ⟨endW e (adr e.oz 0) (adr e.iz 1)⟩
def endH (e : SE) : IHeap := [.cells (outC e.outs) false, .cells (inC e.ins) false]

structure Wf (e : SE) : Prop where
  oz : e.oz = true → e.outs = []
  iz : e.iz = true → e.ins = []
  on : e.outs.length ≤ 9223372036854775807
  inn : e.ins.length ≤ 9223372036854775807

theorem outC_get (a : List (ByteArray × Bool)) (x : ByteArray × Bool) (b : List (ByteArray × Bool)) : (outC (a ++ x :: b))[2 * a.length]? = some (.string x.1) ∧ (outC (a ++ x :: b))[2 * a.length + 1]? = some (.bool x.2) := by
  induction a with
  | nil => exact ⟨rfl, rfl⟩
  | cons y a ih =>
    have e : outC ((y :: a) ++ x :: b) = .string y.1 :: .bool y.2 :: outC (a ++ x :: b) := rfl
    rw [e, List.length_cons, show 2 * (a.length + 1) = 2 * a.length + 1 + 1 by omega, show 2 * a.length + 1 + 1 + 1 = (2 * a.length + 1) + 1 + 1 by omega]
    simp only [List.getElem?_cons_succ]
    exact ih
theorem inC_get (a : List (Int × ByteArray)) (x : Int × ByteArray) (b : List (Int × ByteArray)) : (inC (a ++ x :: b))[2 * a.length]? = some (.int .i64 x.1) ∧ (inC (a ++ x :: b))[2 * a.length + 1]? = some (.string x.2) := by
  induction a with
  | nil => exact ⟨rfl, rfl⟩
  | cons y a ih =>
    have e : inC ((y :: a) ++ x :: b) = .int .i64 y.1 :: .string y.2 :: inC (a ++ x :: b) := rfl
    rw [e, List.length_cons, show 2 * (a.length + 1) = 2 * a.length + 1 + 1 by omega, show 2 * a.length + 1 + 1 + 1 = (2 * a.length + 1) + 1 + 1 by omega]
    simp only [List.getElem?_cons_succ]
    exact ih

theorem ground_outC : ∀ l, ground.groundL (outC l) = true
  | [] => rfl
  | x :: l => by show (true && (true && ground.groundL (outC l))) = true; rw [ground_outC l]; rfl
theorem ground_inC : ∀ l, ground.groundL (inC l) = true
  | [] => rfl
  | x :: l => by show (true && (true && ground.groundL (inC l))) = true; rw [ground_inC l]; rfl
/-- A contract over one end, where its two blocks are the first. -/
theorem lift1 {f : FuncId} {e : SE} {v : Value} (hv : plainV v = true) (h : ICalls Pr f [endV e] (endH e) (fun r _ => r = .ret v)) {H : IHeap} (h0 : H[0]? = some (.cells (outC e.outs) false)) (h1 : H[1]? = some (.cells (inC e.ins) false)) :
    ICalls Pr f [endV e] H (fun r H' => r = .ret v ∧ H' = H) := by
  have h2 : ICalls Pr f [endV e] (endH e) (fun r H' => r = .ret v ∧ ∀ (i : Nat) (o : IObj), (endH e)[i]? = some o → o.own = true → H'[i]? = some o) := by
    refine h.mono fun r H' hr => ⟨hr, fun i o ho hown => ?_⟩
    match i, ho with
    | 0, ho => cases ho; cases hown
    | 1, ho => cases ho; cases hown
    | i + 2, ho => simp [endH] at ho
  have h3 := h2.frame id (plainV_rel hv) (H := H) ?_ ?_ ?_ ?_
  · rw [ren_ids] at h3
    exact h3
  · simp [endH, plainO, ground_outC, ground_inC]
  · cases e with | mk a b c d w oz iz outs ins => cases oz <;> cases iz <;> rfl
  · intro i hi
    match i, hi with
    | 0, _ => exact h0
    | 1, _ => exact h1
    | i + 2, hi => exact absurd hi (by simp [endH])
  · intro i j _ _ h
    exact h

/-- A contract that asks for nothing of memory. -/
theorem lift0 {f : FuncId} {args : List Value} {v : Value} (hv : plainV v = true) (ha : inV.goL 0 args = true) (h : ICalls Pr f args [] (fun r _ => r = .ret v)) (H : IHeap) :
    ICalls Pr f args H (fun r H' => r = .ret v ∧ H' = H) := by
  have h2 : ICalls Pr f args [] (fun r H' => r = .ret v ∧ ∀ (i : Nat) (o : IObj), ([] : IHeap)[i]? = some o → o.own = true → H'[i]? = some o) := h.mono fun r H' hr => ⟨hr, fun i o ho => by simp at ho⟩
  have h3 := h2.frame id (plainV_rel hv) (H := H) rfl ha (fun i hi => absurd hi (Nat.not_lt_zero _)) (fun i j hi => absurd hi (Nat.not_lt_zero _))
  rw [ren_ids] at h3
  exact h3

/-! ### in -/
def inS (n lo hi : Int) : Bool := decide (lo ≤ n) && decide (n ≤ hi)
theorem in_ok (n lo hi : Int) (H : IHeap) : ICalls Pr 35 [.int .i64 n, .int .i64 lo, .int .i64 hi] H (fun r H' => r = .ret (.bool (inS n lo hi)) ∧ H' = H) := by
  refine lift0 rfl rfl (icalls_sx (by kernel_rfl) (iwl_last (hs := []) (rf := true) mixed sc0_ok _ (by kernel_rfl) ?_)) H
  refine Eq.mp (α := (Ide.bcase (decide (n ≥ lo))
 (IEnd.ret (Value.bool (decide (n ≤ hi))) = IEnd.ret (Value.bool (inS n lo hi)))
 (IEnd.ret (Value.bool false) = IEnd.ret (Value.bool (inS n lo hi))))) (by kernel_rfl) ?_
  refine bcI (fun h => ?_) (fun h => ?_) <;> simp_all [inS]
  omega

/-! ### Flying -/
def flyS (e : SE) : Int := if e.phase = 3 then (if e.outs.length > 4 then 4 else (e.outs.length : Int)) else 0
theorem fly_ok (e : SE) {H : IHeap} (h0 : H[0]? = some (.cells (outC e.outs) false)) (h1 : H[1]? = some (.cells (inC e.ins) false)) : ICalls Pr 38 [endV e] H (fun r H' => r = .ret (.int .i64 (flyS e)) ∧ H' = H) := by
  refine lift1 rfl (icalls_sx (by kernel_rfl) (iwl_last (hs := []) (rf := true) mixed sc0_ok _ (by kernel_rfl) ?_)) h0 h1
  refine Eq.mp (α := (Ide.bcase (e.phase != 3)
 (IEnd.ret (Value.int IntKind.i64 0) = IEnd.ret (Value.int .i64 (flyS e)))
 (Ide.bcase (decide (((e.outs.length : Nat) : Int) > 4))
 (IEnd.ret (Value.int IntKind.i64 4) = IEnd.ret (Value.int .i64 (flyS e)))
 (IEnd.ret (Value.int IntKind.i64 ((e.outs.length : Nat) : Int)) = IEnd.ret (Value.int .i64 (flyS e)))))) (by kernel_rfl) ?_
  refine bcI (fun h => ?_) (fun h => ?_)
  · simp_all [flyS]
  · refine bcI (fun h => ?_) (fun h => ?_) <;> simp_all [flyS] <;> omega

/-! ### Start -/
/-- An end without messages. -/
def endN (life phase : Int) : Value := .agg ⟨[.int .i64 life, .int .i64 0, .int .i64 phase, .int .i64 0, .slice none 0 0, .int .i64 0, .slice none 0 0]⟩
def stL (n : Int) : Int := if inS n 1 1000000000 = true then n else 0
def stP (n : Int) : Int := if inS n 1 1000000000 = true then 1 else 0
def stE (n : Int) : Int := if inS n 1 1000000000 = true then 0 else 2
def startS (n : Int) : Value := .tuple ⟨[endN (stL n) (stP n), .int .i64 (stE n)]⟩

/-- What may be called: in. -/
def scIn : SCall := fun g args H K => bif Nat.beq g 35 then (match args with | [.int .i64 a, .int .i64 b, .int .i64 c] => K (.bool (inS a b c)) H | _ => False) else False
theorem scIn_ok : SOk Pr scIn := by
  intro g args H K h
  unfold scIn at h
  obtain ⟨hg, h⟩ := bifF h
  have := Nat.eq_of_beq_eq_true hg
  subst this
  split at h
  · exact (in_ok _ _ _ H).mono fun r H' hr => ⟨_, hr.1, by rw [hr.2]; exact h⟩
  · exact h.elim

theorem start_ok (n : Int) (H : IHeap) : ICalls Pr 9 [.int .i64 n] H (fun r H' => r = .ret (startS n) ∧ H' = H) := by
  refine lift0 rfl rfl (icalls_sx (by kernel_rfl) (iwl_last (hs := []) (rf := true) mixed scIn_ok _ (by kernel_rfl) ?_)) H
  refine Eq.mp (α := (Ide.bcase (!(inS n 1 1000000000))
 (IEnd.ret (Value.tuple ⟨[Value.agg ⟨[Value.int IntKind.i64 0, Value.int IntKind.i64 0, Value.int IntKind.i64 0, Value.int IntKind.i64 0, Value.slice none 0 0, Value.int IntKind.i64 0, Value.slice none 0 0]⟩, Value.int IntKind.i64 2]⟩) = IEnd.ret (startS n))
 (IEnd.ret (Value.tuple ⟨[Value.agg ⟨[Value.int IntKind.i64 n, Value.int IntKind.i64 0, Value.int IntKind.i64 1, Value.int IntKind.i64 0, Value.slice none 0 0, Value.int IntKind.i64 0, Value.slice none 0 0]⟩, Value.int IntKind.i64 0]⟩) = IEnd.ret (startS n)))) (by kernel_rfl) ?_
  refine bcI (fun h => ?_) (fun h => ?_) <;> simp_all [startS, endN, stL, stP, stE]

theorem sstart_ok (n : Int) (H : IHeap) : ICalls Pr 11 [.int .i64 n] H (fun r H' => r = .ret (startS n) ∧ H' = H) := by
  refine lift0 rfl rfl (icalls_sx (by kernel_rfl) (iwl_last (hs := []) (rf := true) mixed sc0_ok _ (by kernel_rfl) ?_)) H
  refine Eq.mp (α := (Ide.bcase (decide (n < 1))
 (IEnd.ret (Value.tuple ⟨[Value.agg ⟨[Value.int IntKind.i64 0, Value.int IntKind.i64 0, Value.int IntKind.i64 0, Value.int IntKind.i64 0, Value.slice none 0 0, Value.int IntKind.i64 0, Value.slice none 0 0]⟩, Value.int IntKind.i64 2]⟩) = IEnd.ret (startS n))
 (Ide.bcase (decide (n > 1000000000))
 (IEnd.ret (Value.tuple ⟨[Value.agg ⟨[Value.int IntKind.i64 0, Value.int IntKind.i64 0, Value.int IntKind.i64 0, Value.int IntKind.i64 0, Value.slice none 0 0, Value.int IntKind.i64 0, Value.slice none 0 0]⟩, Value.int IntKind.i64 2]⟩) = IEnd.ret (startS n))
 (IEnd.ret (Value.tuple ⟨[Value.agg ⟨[Value.int IntKind.i64 n, Value.int IntKind.i64 0, Value.int IntKind.i64 1, Value.int IntKind.i64 0, Value.slice none 0 0, Value.int IntKind.i64 0, Value.slice none 0 0]⟩, Value.int IntKind.i64 0]⟩) = IEnd.ret (startS n))))) (by kernel_rfl) ?_
  refine bcI (fun h => ?_) (fun h => bcI (fun h2 => ?_) (fun h2 => ?_)) <;> simp_all [startS, endN, stL, stP, stE, inS] <;> omega

end Go.Proofs.Ytoikiogaiikheaa.Sess
