/- The examples of the chapter, reckoned; what the law's code is run with. -/
import Derived.Test.YtjjnlbceoajllaaGreatIdeZl
import Derived.Test.YtjjnlbceoajllaaGreatProg
set_option linter.unusedVariables false
set_option maxRecDepth 10000
open Go Go.RowKit Ide
namespace Go.Proofs.YtjjnlbceoajllaaGreat.Firsts
open Go.Proofs
noncomputable abbrev Pr : Program := Tryz.prog
def knownFns : List FuncId := [6, 7, 8, 10, 13, 14, 15, 17, 19, 20, 21, 22, 23, 24, 25, 27, 28, 29, 30, 31, 32, 33, 34, 35, 36, 37, 38, 39, 40, 41, 42, 43, 44, 45, 46, 47, 48, 49, 50, 51, 52, 53, 54, 55, 56, 57, 58, 59, 60, 61, 62, 63, 64, 65, 66, 67, 68, 69, 70, 71, 72, 73, 74, 75, 76, 77, 78, 79, 80, 81, 82, 83, 84, 85, 86, 87, 88, 89, 90, 91, 92, 93, 94, 95, 96, 97, 98, 99, 100, 101, 102, 103, 104, 105, 106, 107, 108, 109, 110, 111]
theorem knownFns_ok : knownFns.all (fnOk Pr) = true := by kernel_rfl
theorem mixed : Pr.follows .mixedOrders = true := by kernel_rfl
theorem known_true : xtrue Pr knownFns 400 40 6 = true := by kernel_rfl

/-- A contract that asks for nothing of memory. -/
theorem lift0 {f : FuncId} {args : List Value} {v : Value} (hv : plainV v = true) (ha : inV.goL 0 args = true) (h : ICalls Pr f args [] (fun r _ => r = .ret v)) (H : IHeap) :
    ICalls Pr f args H (fun r H' => r = .ret v ∧ H' = H) := by
  have h2 : ICalls Pr f args [] (fun r H' => r = .ret v ∧ ∀ (i : Nat) (o : IObj), ([] : IHeap)[i]? = some o → o.own = true → H'[i]? = some o) := h.mono fun r H' hr => ⟨hr, fun i o ho => by simp at ho⟩
  have h3 := h2.frame id (plainV_rel hv) (H := H) rfl ha (fun i hi => absurd hi (Nat.not_lt_zero _)) (fun i j hi => absurd hi (Nat.not_lt_zero _))
  rw [ren_ids] at h3
  exact h3

theorem known_ok (H : IHeap) : ICalls Pr 6 [] H (fun r H' => r = .ret (.bool true) ∧ H' = H) := lift0 rfl rfl (icalls_xtrue mixed knownFns_ok known_true) H

/-- The examples are true. -/
def baseG (g : FuncId) (args : List Value) (h : XHeap) (K : Value → XHeap → Prop) : Prop := bif Nat.beq g 6 && args.isEmpty then K (.bool true) h else False
def base : YCall := fun f args h K =>
  match f with
  | .func g => baseG g args h K
  | _ => False
theorem baseG_ok {g : FuncId} {args : List Value} {h : XHeap} {K : Value → XHeap → Prop} (hx : baseG g args h K) {H : IHeap} (hr : RepH H h) : ICalls Pr g args H (fun e H' => ∃ v h', e = .ret v ∧ RepH H' h' ∧ K v h') := by
  unfold baseG at hx
  obtain ⟨hg, hx⟩ := bifF hx
  simp only [Bool.and_eq_true, List.isEmpty_iff] at hg
  obtain ⟨hg, rfl⟩ := hg
  have := Nat.eq_of_beq_eq_true hg
  subst this
  exact ICalls.mono (known_ok H) fun e H' hh => ⟨_, h, hh.1, by rw [hh.2]; exact hr, hx⟩
theorem base_ok : YOk Pr base := by
  intro f args h K hx H hr
  cases f with
  | func g => exact baseG_ok hx hr
  | _ => exact hx.elim

def lawFns : List FuncId := [3, 7, 8, 9, 10, 23]
theorem lawFns_ok : lawFns.all (fnOk Pr) = true := by kernel_rfl
def guide (f : FuncId) : Guide := bif Nat.beq f 7 then [(38, false), (42, false)] else bif Nat.beq f 8 then [(38, false), (42, false)] else bif Nat.beq f 10 then [(125, false)] else []

/-- One block. -/
def one (o : IObj) : XHeap := ⟨1, match Tr.set 20 .nil 0 o with | some t => t | none => .nil⟩
theorem one_rep (o : IObj) : RepH [o] (one o) := by
  refine ⟨rfl, fun i => ?_⟩
  have hs : ∃ t, Tr.set 20 (.nil : Tr IObj) 0 o = some t := ⟨_, rfl⟩
  obtain ⟨t, ht⟩ := hs
  have hg := Tr.get_set 20 _ _ _ _ ht i
  show [o][i]? = Tr.get (match Tr.set 20 (.nil : Tr IObj) 0 o with | some t => t | none => .nil) i
  rw [ht]
  simp only
  rw [hg]
  cases i with
  | zero => rfl
  | succ i => simp [Tr.get]

def ints (l : List Int) : List Value := l.map fun n => .int .i64 n
def homesV (l : List Int) : Value := .slice (some ⟨0, 0, some 2⟩) l.length l.length

def deepN : Nat := 12
/-- The law, run with guides. -/
def runLaw (m : Int) (l : List Int) : Prop := yfun Pr guide lawFns 400 base deepN (.func 3) [.int .i64 m, homesV l] (one (.cells (ints l) false)) (fun v _ => v = .bool true)
theorem runLaw_ok {m : Int} {l : List Int} (h : runLaw m l) : ICalls Pr 3 [.int .i64 m, homesV l] [.cells (ints l) false] (fun r _ => r = .ret (.bool true)) := by
  unfold runLaw at h
  have hd : ∃ d, deepN = d := ⟨_, rfl⟩
  obtain ⟨d, hd⟩ := hd
  rw [hd] at h
  have h3 := yfun_use mixed lawFns_ok base_ok (one_rep _) h
  refine ICalls.mono h3 fun e H' hh => ?_
  obtain ⟨v, h', rfl, _, rfl⟩ := hh
  rfl

def noGuide (f : FuncId) : Guide := []
/-- A function, run without guides: it comes to a value. -/
def runTo (f : FuncId) (m : Int) (l : List Int) (u : Value) : Prop := yfun Pr noGuide lawFns 400 base deepN (.func f) [.int .i64 m, homesV l] (one (.cells (ints l) false)) (fun v _ => v = u)
theorem runTo_ok {f : FuncId} {m : Int} {l : List Int} {u : Value} (h : runTo f m l u) : ICalls Pr f [.int .i64 m, homesV l] [.cells (ints l) false] (fun r _ => r = .ret u) := by
  unfold runTo at h
  refine ICalls.mono (yfun_use mixed lawFns_ok base_ok (one_rep _) h) fun e H' hh => ?_
  obtain ⟨v, h', rfl, _, rfl⟩ := hh
  rfl

/-- No world. -/
def zeroW : Value := .agg ⟨[.slice none 0 0, .slice none 0 0, .slice none 0 0, .slice none 0 0, .slice none 0 0, .int .i64 0]⟩
def zero7 : Value := .tuple ⟨[zeroW, .bool false]⟩
def zero8 : Value := .tuple ⟨[zeroW, .int .i64 2]⟩

end Go.Proofs.YtjjnlbceoajllaaGreat.Firsts
