/- FerryFirsts over any number of machines and any homes. -/
import Derived.Test.YtjjnlbceoajllaaGreatFerryB1
import Derived.Test.YtjjnlbceoajllaaGreatFerryB2
import Derived.Test.YtjjnlbceoajllaaGreatFerryB3
import Derived.Test.YtjjnlbceoajllaaGreatFerryB4
import Derived.Test.YtjjnlbceoajllaaGreatFerryB5
set_option linter.unusedVariables false
set_option linter.unusedSimpArgs false
set_option maxRecDepth 100000
open Go Go.RowKit Ide
namespace Go.Proofs.YtjjnlbceoajllaaGreat.Firsts
open Go.Proofs

noncomputable def sp (f : FuncId) : List Code := Ide.spine (bodyOf Pr f) []
def adr (z : Bool) : Option Addr := match z with | true => none | false => some ⟨0, 0, some 2⟩
def good (m : Int) (l : List Int) : Prop := ∀ h ∈ l, 0 ≤ h ∧ h < m
def fits (m : Int) (l : List Int) : Prop := (1 ≤ m ∧ m ≤ 5) ∧ (1 ≤ l.length ∧ l.length ≤ 8)

def hdOf (cs : List Code) : Code := match cs with | c :: _ => c | [] => .skip
theorem cut7 : Ide.spine (bodyOf Pr 7) [] = (sp 7).take 4 ++ (hdOf ((sp 7).drop 4) :: ((sp 7).drop 4).tail) := by kernel_rfl
theorem cut8 : Ide.spine (bodyOf Pr 8) [] = (sp 8).take 3 ++ (hdOf ((sp 8).drop 3) :: ((sp 8).drop 3).tail) := by kernel_rfl

theorem err7 (m : Int) (l : List Int) (a : Option Addr) (h : ¬ fits m l) : ICalls Pr 7 [.int .i64 m, .slice a l.length l.length] [.cells (ints l) false] (fun r _ => r = .ret zero7) := by
  refine icalls_sx (by kernel_rfl) ?_
  rw [cut7]
  refine iwl_segk (hs := []) (rf := true) mixed sc0_ok [0, 1, 4, 5, 6] _ _ _ (by kernel_rfl) ?_
  refine Eq.mp (α := (Ide.bcase (decide (m < 1))
 (IEnd.ret (Value.tuple ⟨[Value.agg ⟨[Value.slice none 0 0, Value.slice none 0 0, Value.slice none 0 0, Value.slice none 0 0, Value.slice none 0 0, Value.int IntKind.i64 0]⟩, Value.bool false]⟩) = IEnd.ret zero7)
 (Ide.bcase (decide (m > 5))
 (IEnd.ret (Value.tuple ⟨[Value.agg ⟨[Value.slice none 0 0, Value.slice none 0 0, Value.slice none 0 0, Value.slice none 0 0, Value.slice none 0 0, Value.int IntKind.i64 0]⟩, Value.bool false]⟩) = IEnd.ret zero7)
 (Ide.bcase (decide (((l.length : Nat) : Int) < 1))
 (IEnd.ret (Value.tuple ⟨[Value.agg ⟨[Value.slice none 0 0, Value.slice none 0 0, Value.slice none 0 0, Value.slice none 0 0, Value.slice none 0 0, Value.int IntKind.i64 0]⟩, Value.bool false]⟩) = IEnd.ret zero7)
 (Ide.bcase (decide (((l.length : Nat) : Int) > 8))
 (IEnd.ret (Value.tuple ⟨[Value.agg ⟨[Value.slice none 0 0, Value.slice none 0 0, Value.slice none 0 0, Value.slice none 0 0, Value.slice none 0 0, Value.int IntKind.i64 0]⟩, Value.bool false]⟩) = IEnd.ret zero7)
 (IWL none Pr 87 (hdOf ((sp 7).drop 4) :: ((sp 7).drop 4).tail) (bodyS Pr (ressOf Pr 7) fun r x => r = IEnd.ret zero7) [(0, Value.int IntKind.i64 m), (1, Value.slice a l.length l.length), (4, Value.pointer (some ⟨1, 0, none⟩)), (5, Value.bool false), (6, Value.pointer (some ⟨2, 0, none⟩))] [.cells (ints l) false, .cells [Value.slice none 0 0, Value.slice none 0 0, Value.slice none 0 0, Value.slice none 0 0, Value.slice none 0 0, Value.int IntKind.i64 0] true, .cells [Value.slice none 0 0, Value.slice none 0 0, Value.slice none 0 0, Value.slice none 0 0, Value.slice none 0 0, Value.int IntKind.i64 0] true])))))) (by kernel_rfl) ?_
  refine bcI (fun h1 => rfl) (fun h1 => bcI (fun h2 => rfl) (fun h2 => bcI (fun h3 => rfl) (fun h3 => bcI (fun h4 => rfl) (fun h4 => ?_))))
  exfalso
  apply h
  unfold fits
  simp only [decide_eq_false_iff_not, gt_iff_lt] at h1 h2 h3 h4
  omega
theorem err8 (m : Int) (l : List Int) (a : Option Addr) (h : ¬ fits m l) : ICalls Pr 8 [.int .i64 m, .slice a l.length l.length] [.cells (ints l) false] (fun r _ => r = .ret zero8) := by
  refine icalls_sx (by kernel_rfl) ?_
  rw [cut8]
  refine iwl_segk (hs := []) (rf := true) mixed sc0_ok [0, 1, 4, 5, 6] _ _ _ (by kernel_rfl) ?_
  refine Eq.mp (α := (Ide.bcase (decide (m < 1))
 (IEnd.ret (Value.tuple ⟨[Value.agg ⟨[Value.slice none 0 0, Value.slice none 0 0, Value.slice none 0 0, Value.slice none 0 0, Value.slice none 0 0, Value.int IntKind.i64 0]⟩, Value.int IntKind.i64 2]⟩) = IEnd.ret zero8)
 (Ide.bcase (decide (m > 5))
 (IEnd.ret (Value.tuple ⟨[Value.agg ⟨[Value.slice none 0 0, Value.slice none 0 0, Value.slice none 0 0, Value.slice none 0 0, Value.slice none 0 0, Value.int IntKind.i64 0]⟩, Value.int IntKind.i64 2]⟩) = IEnd.ret zero8)
 (Ide.bcase (decide (((l.length : Nat) : Int) < 1))
 (IEnd.ret (Value.tuple ⟨[Value.agg ⟨[Value.slice none 0 0, Value.slice none 0 0, Value.slice none 0 0, Value.slice none 0 0, Value.slice none 0 0, Value.int IntKind.i64 0]⟩, Value.int IntKind.i64 2]⟩) = IEnd.ret zero8)
 (Ide.bcase (decide (((l.length : Nat) : Int) > 8))
 (IEnd.ret (Value.tuple ⟨[Value.agg ⟨[Value.slice none 0 0, Value.slice none 0 0, Value.slice none 0 0, Value.slice none 0 0, Value.slice none 0 0, Value.int IntKind.i64 0]⟩, Value.int IntKind.i64 2]⟩) = IEnd.ret zero8)
 (IWL none Pr 87 (hdOf ((sp 8).drop 3) :: ((sp 8).drop 3).tail) (bodyS Pr (ressOf Pr 8) fun r x => r = IEnd.ret zero8) [(0, Value.int IntKind.i64 m), (1, Value.slice a l.length l.length), (4, Value.pointer (some ⟨1, 0, none⟩)), (5, Value.int IntKind.i64 0)] [.cells (ints l) false, .cells [Value.slice none 0 0, Value.slice none 0 0, Value.slice none 0 0, Value.slice none 0 0, Value.slice none 0 0, Value.int IntKind.i64 0] true])))))) (by kernel_rfl) ?_
  refine bcI (fun h1 => rfl) (fun h1 => bcI (fun h2 => rfl) (fun h2 => bcI (fun h3 => rfl) (fun h3 => bcI (fun h4 => rfl) (fun h4 => ?_))))
  exfalso
  apply h
  unfold fits
  simp only [decide_eq_false_iff_not, gt_iff_lt] at h1 h2 h3 h4
  omega

theorem good_m1 (l : List Int) (h1 : 1 ≤ l.length) (h8 : l.length ≤ 8) (hg : good 1 l) : runLaw 1 l := by
  match l, h1, h8, hg with
  | [], h, _, _ => exact absurd h (by simp)
  | [h0], _, _, hg => exact good_1_1 h0 (hg h0 (by simp)).1 (hg h0 (by simp)).2
  | [h0, h1], _, _, hg => exact good_1_2 h0 h1 (hg h0 (by simp)).1 (hg h0 (by simp)).2 (hg h1 (by simp)).1 (hg h1 (by simp)).2
  | [h0, h1, h2], _, _, hg => exact good_1_3 h0 h1 h2 (hg h0 (by simp)).1 (hg h0 (by simp)).2 (hg h1 (by simp)).1 (hg h1 (by simp)).2 (hg h2 (by simp)).1 (hg h2 (by simp)).2
  | [h0, h1, h2, h3], _, _, hg => exact good_1_4 h0 h1 h2 h3 (hg h0 (by simp)).1 (hg h0 (by simp)).2 (hg h1 (by simp)).1 (hg h1 (by simp)).2 (hg h2 (by simp)).1 (hg h2 (by simp)).2 (hg h3 (by simp)).1 (hg h3 (by simp)).2
  | [h0, h1, h2, h3, h4], _, _, hg => exact good_1_5 h0 h1 h2 h3 h4 (hg h0 (by simp)).1 (hg h0 (by simp)).2 (hg h1 (by simp)).1 (hg h1 (by simp)).2 (hg h2 (by simp)).1 (hg h2 (by simp)).2 (hg h3 (by simp)).1 (hg h3 (by simp)).2 (hg h4 (by simp)).1 (hg h4 (by simp)).2
  | [h0, h1, h2, h3, h4, h5], _, _, hg => exact good_1_6 h0 h1 h2 h3 h4 h5 (hg h0 (by simp)).1 (hg h0 (by simp)).2 (hg h1 (by simp)).1 (hg h1 (by simp)).2 (hg h2 (by simp)).1 (hg h2 (by simp)).2 (hg h3 (by simp)).1 (hg h3 (by simp)).2 (hg h4 (by simp)).1 (hg h4 (by simp)).2 (hg h5 (by simp)).1 (hg h5 (by simp)).2
  | [h0, h1, h2, h3, h4, h5, h6], _, _, hg => exact good_1_7 h0 h1 h2 h3 h4 h5 h6 (hg h0 (by simp)).1 (hg h0 (by simp)).2 (hg h1 (by simp)).1 (hg h1 (by simp)).2 (hg h2 (by simp)).1 (hg h2 (by simp)).2 (hg h3 (by simp)).1 (hg h3 (by simp)).2 (hg h4 (by simp)).1 (hg h4 (by simp)).2 (hg h5 (by simp)).1 (hg h5 (by simp)).2 (hg h6 (by simp)).1 (hg h6 (by simp)).2
  | [h0, h1, h2, h3, h4, h5, h6, h7], _, _, hg => exact good_1_8 h0 h1 h2 h3 h4 h5 h6 h7 (hg h0 (by simp)).1 (hg h0 (by simp)).2 (hg h1 (by simp)).1 (hg h1 (by simp)).2 (hg h2 (by simp)).1 (hg h2 (by simp)).2 (hg h3 (by simp)).1 (hg h3 (by simp)).2 (hg h4 (by simp)).1 (hg h4 (by simp)).2 (hg h5 (by simp)).1 (hg h5 (by simp)).2 (hg h6 (by simp)).1 (hg h6 (by simp)).2 (hg h7 (by simp)).1 (hg h7 (by simp)).2
  | _ :: _ :: _ :: _ :: _ :: _ :: _ :: _ :: _ :: _, _, h, _ => exact absurd h (by simp only [List.length_cons]; omega)
theorem bad7_m1 (l : List Int) (h1 : 1 ≤ l.length) (h8 : l.length ≤ 8) (hb : ¬ good 1 l) : runTo 7 1 l zero7 := by
  match l, h1, h8, hb with
  | [], h, _, _ => exact absurd h (by simp)
  | [h0], _, _, hb => exact bad7_1_1 h0 (fun hc => hb (by simpa only [good, List.forall_mem_cons, List.forall_mem_nil, List.not_mem_nil, false_implies, implies_true, and_true] using hc))
  | [h0, h1], _, _, hb => exact bad7_1_2 h0 h1 (fun hc => hb (by simpa only [good, List.forall_mem_cons, List.forall_mem_nil, List.not_mem_nil, false_implies, implies_true, and_true] using hc))
  | [h0, h1, h2], _, _, hb => exact bad7_1_3 h0 h1 h2 (fun hc => hb (by simpa only [good, List.forall_mem_cons, List.forall_mem_nil, List.not_mem_nil, false_implies, implies_true, and_true] using hc))
  | [h0, h1, h2, h3], _, _, hb => exact bad7_1_4 h0 h1 h2 h3 (fun hc => hb (by simpa only [good, List.forall_mem_cons, List.forall_mem_nil, List.not_mem_nil, false_implies, implies_true, and_true] using hc))
  | [h0, h1, h2, h3, h4], _, _, hb => exact bad7_1_5 h0 h1 h2 h3 h4 (fun hc => hb (by simpa only [good, List.forall_mem_cons, List.forall_mem_nil, List.not_mem_nil, false_implies, implies_true, and_true] using hc))
  | [h0, h1, h2, h3, h4, h5], _, _, hb => exact bad7_1_6 h0 h1 h2 h3 h4 h5 (fun hc => hb (by simpa only [good, List.forall_mem_cons, List.forall_mem_nil, List.not_mem_nil, false_implies, implies_true, and_true] using hc))
  | [h0, h1, h2, h3, h4, h5, h6], _, _, hb => exact bad7_1_7 h0 h1 h2 h3 h4 h5 h6 (fun hc => hb (by simpa only [good, List.forall_mem_cons, List.forall_mem_nil, List.not_mem_nil, false_implies, implies_true, and_true] using hc))
  | [h0, h1, h2, h3, h4, h5, h6, h7], _, _, hb => exact bad7_1_8 h0 h1 h2 h3 h4 h5 h6 h7 (fun hc => hb (by simpa only [good, List.forall_mem_cons, List.forall_mem_nil, List.not_mem_nil, false_implies, implies_true, and_true] using hc))
  | _ :: _ :: _ :: _ :: _ :: _ :: _ :: _ :: _ :: _, _, h, _ => exact absurd h (by simp only [List.length_cons]; omega)
theorem bad8_m1 (l : List Int) (h1 : 1 ≤ l.length) (h8 : l.length ≤ 8) (hb : ¬ good 1 l) : runTo 8 1 l zero8 := by
  match l, h1, h8, hb with
  | [], h, _, _ => exact absurd h (by simp)
  | [h0], _, _, hb => exact bad8_1_1 h0 (fun hc => hb (by simpa only [good, List.forall_mem_cons, List.forall_mem_nil, List.not_mem_nil, false_implies, implies_true, and_true] using hc))
  | [h0, h1], _, _, hb => exact bad8_1_2 h0 h1 (fun hc => hb (by simpa only [good, List.forall_mem_cons, List.forall_mem_nil, List.not_mem_nil, false_implies, implies_true, and_true] using hc))
  | [h0, h1, h2], _, _, hb => exact bad8_1_3 h0 h1 h2 (fun hc => hb (by simpa only [good, List.forall_mem_cons, List.forall_mem_nil, List.not_mem_nil, false_implies, implies_true, and_true] using hc))
  | [h0, h1, h2, h3], _, _, hb => exact bad8_1_4 h0 h1 h2 h3 (fun hc => hb (by simpa only [good, List.forall_mem_cons, List.forall_mem_nil, List.not_mem_nil, false_implies, implies_true, and_true] using hc))
  | [h0, h1, h2, h3, h4], _, _, hb => exact bad8_1_5 h0 h1 h2 h3 h4 (fun hc => hb (by simpa only [good, List.forall_mem_cons, List.forall_mem_nil, List.not_mem_nil, false_implies, implies_true, and_true] using hc))
  | [h0, h1, h2, h3, h4, h5], _, _, hb => exact bad8_1_6 h0 h1 h2 h3 h4 h5 (fun hc => hb (by simpa only [good, List.forall_mem_cons, List.forall_mem_nil, List.not_mem_nil, false_implies, implies_true, and_true] using hc))
  | [h0, h1, h2, h3, h4, h5, h6], _, _, hb => exact bad8_1_7 h0 h1 h2 h3 h4 h5 h6 (fun hc => hb (by simpa only [good, List.forall_mem_cons, List.forall_mem_nil, List.not_mem_nil, false_implies, implies_true, and_true] using hc))
  | [h0, h1, h2, h3, h4, h5, h6, h7], _, _, hb => exact bad8_1_8 h0 h1 h2 h3 h4 h5 h6 h7 (fun hc => hb (by simpa only [good, List.forall_mem_cons, List.forall_mem_nil, List.not_mem_nil, false_implies, implies_true, and_true] using hc))
  | _ :: _ :: _ :: _ :: _ :: _ :: _ :: _ :: _ :: _, _, h, _ => exact absurd h (by simp only [List.length_cons]; omega)
theorem good_m2 (l : List Int) (h1 : 1 ≤ l.length) (h8 : l.length ≤ 8) (hg : good 2 l) : runLaw 2 l := by
  match l, h1, h8, hg with
  | [], h, _, _ => exact absurd h (by simp)
  | [h0], _, _, hg => exact good_2_1 h0 (hg h0 (by simp)).1 (hg h0 (by simp)).2
  | [h0, h1], _, _, hg => exact good_2_2 h0 h1 (hg h0 (by simp)).1 (hg h0 (by simp)).2 (hg h1 (by simp)).1 (hg h1 (by simp)).2
  | [h0, h1, h2], _, _, hg => exact good_2_3 h0 h1 h2 (hg h0 (by simp)).1 (hg h0 (by simp)).2 (hg h1 (by simp)).1 (hg h1 (by simp)).2 (hg h2 (by simp)).1 (hg h2 (by simp)).2
  | [h0, h1, h2, h3], _, _, hg => exact good_2_4 h0 h1 h2 h3 (hg h0 (by simp)).1 (hg h0 (by simp)).2 (hg h1 (by simp)).1 (hg h1 (by simp)).2 (hg h2 (by simp)).1 (hg h2 (by simp)).2 (hg h3 (by simp)).1 (hg h3 (by simp)).2
  | [h0, h1, h2, h3, h4], _, _, hg => exact good_2_5 h0 h1 h2 h3 h4 (hg h0 (by simp)).1 (hg h0 (by simp)).2 (hg h1 (by simp)).1 (hg h1 (by simp)).2 (hg h2 (by simp)).1 (hg h2 (by simp)).2 (hg h3 (by simp)).1 (hg h3 (by simp)).2 (hg h4 (by simp)).1 (hg h4 (by simp)).2
  | [h0, h1, h2, h3, h4, h5], _, _, hg => exact good_2_6 h0 h1 h2 h3 h4 h5 (hg h0 (by simp)).1 (hg h0 (by simp)).2 (hg h1 (by simp)).1 (hg h1 (by simp)).2 (hg h2 (by simp)).1 (hg h2 (by simp)).2 (hg h3 (by simp)).1 (hg h3 (by simp)).2 (hg h4 (by simp)).1 (hg h4 (by simp)).2 (hg h5 (by simp)).1 (hg h5 (by simp)).2
  | [h0, h1, h2, h3, h4, h5, h6], _, _, hg => exact good_2_7 h0 h1 h2 h3 h4 h5 h6 (hg h0 (by simp)).1 (hg h0 (by simp)).2 (hg h1 (by simp)).1 (hg h1 (by simp)).2 (hg h2 (by simp)).1 (hg h2 (by simp)).2 (hg h3 (by simp)).1 (hg h3 (by simp)).2 (hg h4 (by simp)).1 (hg h4 (by simp)).2 (hg h5 (by simp)).1 (hg h5 (by simp)).2 (hg h6 (by simp)).1 (hg h6 (by simp)).2
  | [h0, h1, h2, h3, h4, h5, h6, h7], _, _, hg => exact good_2_8 h0 h1 h2 h3 h4 h5 h6 h7 (hg h0 (by simp)).1 (hg h0 (by simp)).2 (hg h1 (by simp)).1 (hg h1 (by simp)).2 (hg h2 (by simp)).1 (hg h2 (by simp)).2 (hg h3 (by simp)).1 (hg h3 (by simp)).2 (hg h4 (by simp)).1 (hg h4 (by simp)).2 (hg h5 (by simp)).1 (hg h5 (by simp)).2 (hg h6 (by simp)).1 (hg h6 (by simp)).2 (hg h7 (by simp)).1 (hg h7 (by simp)).2
  | _ :: _ :: _ :: _ :: _ :: _ :: _ :: _ :: _ :: _, _, h, _ => exact absurd h (by simp only [List.length_cons]; omega)
theorem bad7_m2 (l : List Int) (h1 : 1 ≤ l.length) (h8 : l.length ≤ 8) (hb : ¬ good 2 l) : runTo 7 2 l zero7 := by
  match l, h1, h8, hb with
  | [], h, _, _ => exact absurd h (by simp)
  | [h0], _, _, hb => exact bad7_2_1 h0 (fun hc => hb (by simpa only [good, List.forall_mem_cons, List.forall_mem_nil, List.not_mem_nil, false_implies, implies_true, and_true] using hc))
  | [h0, h1], _, _, hb => exact bad7_2_2 h0 h1 (fun hc => hb (by simpa only [good, List.forall_mem_cons, List.forall_mem_nil, List.not_mem_nil, false_implies, implies_true, and_true] using hc))
  | [h0, h1, h2], _, _, hb => exact bad7_2_3 h0 h1 h2 (fun hc => hb (by simpa only [good, List.forall_mem_cons, List.forall_mem_nil, List.not_mem_nil, false_implies, implies_true, and_true] using hc))
  | [h0, h1, h2, h3], _, _, hb => exact bad7_2_4 h0 h1 h2 h3 (fun hc => hb (by simpa only [good, List.forall_mem_cons, List.forall_mem_nil, List.not_mem_nil, false_implies, implies_true, and_true] using hc))
  | [h0, h1, h2, h3, h4], _, _, hb => exact bad7_2_5 h0 h1 h2 h3 h4 (fun hc => hb (by simpa only [good, List.forall_mem_cons, List.forall_mem_nil, List.not_mem_nil, false_implies, implies_true, and_true] using hc))
  | [h0, h1, h2, h3, h4, h5], _, _, hb => exact bad7_2_6 h0 h1 h2 h3 h4 h5 (fun hc => hb (by simpa only [good, List.forall_mem_cons, List.forall_mem_nil, List.not_mem_nil, false_implies, implies_true, and_true] using hc))
  | [h0, h1, h2, h3, h4, h5, h6], _, _, hb => exact bad7_2_7 h0 h1 h2 h3 h4 h5 h6 (fun hc => hb (by simpa only [good, List.forall_mem_cons, List.forall_mem_nil, List.not_mem_nil, false_implies, implies_true, and_true] using hc))
  | [h0, h1, h2, h3, h4, h5, h6, h7], _, _, hb => exact bad7_2_8 h0 h1 h2 h3 h4 h5 h6 h7 (fun hc => hb (by simpa only [good, List.forall_mem_cons, List.forall_mem_nil, List.not_mem_nil, false_implies, implies_true, and_true] using hc))
  | _ :: _ :: _ :: _ :: _ :: _ :: _ :: _ :: _ :: _, _, h, _ => exact absurd h (by simp only [List.length_cons]; omega)
theorem bad8_m2 (l : List Int) (h1 : 1 ≤ l.length) (h8 : l.length ≤ 8) (hb : ¬ good 2 l) : runTo 8 2 l zero8 := by
  match l, h1, h8, hb with
  | [], h, _, _ => exact absurd h (by simp)
  | [h0], _, _, hb => exact bad8_2_1 h0 (fun hc => hb (by simpa only [good, List.forall_mem_cons, List.forall_mem_nil, List.not_mem_nil, false_implies, implies_true, and_true] using hc))
  | [h0, h1], _, _, hb => exact bad8_2_2 h0 h1 (fun hc => hb (by simpa only [good, List.forall_mem_cons, List.forall_mem_nil, List.not_mem_nil, false_implies, implies_true, and_true] using hc))
  | [h0, h1, h2], _, _, hb => exact bad8_2_3 h0 h1 h2 (fun hc => hb (by simpa only [good, List.forall_mem_cons, List.forall_mem_nil, List.not_mem_nil, false_implies, implies_true, and_true] using hc))
  | [h0, h1, h2, h3], _, _, hb => exact bad8_2_4 h0 h1 h2 h3 (fun hc => hb (by simpa only [good, List.forall_mem_cons, List.forall_mem_nil, List.not_mem_nil, false_implies, implies_true, and_true] using hc))
  | [h0, h1, h2, h3, h4], _, _, hb => exact bad8_2_5 h0 h1 h2 h3 h4 (fun hc => hb (by simpa only [good, List.forall_mem_cons, List.forall_mem_nil, List.not_mem_nil, false_implies, implies_true, and_true] using hc))
  | [h0, h1, h2, h3, h4, h5], _, _, hb => exact bad8_2_6 h0 h1 h2 h3 h4 h5 (fun hc => hb (by simpa only [good, List.forall_mem_cons, List.forall_mem_nil, List.not_mem_nil, false_implies, implies_true, and_true] using hc))
  | [h0, h1, h2, h3, h4, h5, h6], _, _, hb => exact bad8_2_7 h0 h1 h2 h3 h4 h5 h6 (fun hc => hb (by simpa only [good, List.forall_mem_cons, List.forall_mem_nil, List.not_mem_nil, false_implies, implies_true, and_true] using hc))
  | [h0, h1, h2, h3, h4, h5, h6, h7], _, _, hb => exact bad8_2_8 h0 h1 h2 h3 h4 h5 h6 h7 (fun hc => hb (by simpa only [good, List.forall_mem_cons, List.forall_mem_nil, List.not_mem_nil, false_implies, implies_true, and_true] using hc))
  | _ :: _ :: _ :: _ :: _ :: _ :: _ :: _ :: _ :: _, _, h, _ => exact absurd h (by simp only [List.length_cons]; omega)
theorem good_m3 (l : List Int) (h1 : 1 ≤ l.length) (h8 : l.length ≤ 8) (hg : good 3 l) : runLaw 3 l := by
  match l, h1, h8, hg with
  | [], h, _, _ => exact absurd h (by simp)
  | [h0], _, _, hg => exact good_3_1 h0 (hg h0 (by simp)).1 (hg h0 (by simp)).2
  | [h0, h1], _, _, hg => exact good_3_2 h0 h1 (hg h0 (by simp)).1 (hg h0 (by simp)).2 (hg h1 (by simp)).1 (hg h1 (by simp)).2
  | [h0, h1, h2], _, _, hg => exact good_3_3 h0 h1 h2 (hg h0 (by simp)).1 (hg h0 (by simp)).2 (hg h1 (by simp)).1 (hg h1 (by simp)).2 (hg h2 (by simp)).1 (hg h2 (by simp)).2
  | [h0, h1, h2, h3], _, _, hg => exact good_3_4 h0 h1 h2 h3 (hg h0 (by simp)).1 (hg h0 (by simp)).2 (hg h1 (by simp)).1 (hg h1 (by simp)).2 (hg h2 (by simp)).1 (hg h2 (by simp)).2 (hg h3 (by simp)).1 (hg h3 (by simp)).2
  | [h0, h1, h2, h3, h4], _, _, hg => exact good_3_5 h0 h1 h2 h3 h4 (hg h0 (by simp)).1 (hg h0 (by simp)).2 (hg h1 (by simp)).1 (hg h1 (by simp)).2 (hg h2 (by simp)).1 (hg h2 (by simp)).2 (hg h3 (by simp)).1 (hg h3 (by simp)).2 (hg h4 (by simp)).1 (hg h4 (by simp)).2
  | [h0, h1, h2, h3, h4, h5], _, _, hg => exact good_3_6 h0 h1 h2 h3 h4 h5 (hg h0 (by simp)).1 (hg h0 (by simp)).2 (hg h1 (by simp)).1 (hg h1 (by simp)).2 (hg h2 (by simp)).1 (hg h2 (by simp)).2 (hg h3 (by simp)).1 (hg h3 (by simp)).2 (hg h4 (by simp)).1 (hg h4 (by simp)).2 (hg h5 (by simp)).1 (hg h5 (by simp)).2
  | [h0, h1, h2, h3, h4, h5, h6], _, _, hg => exact good_3_7 h0 h1 h2 h3 h4 h5 h6 (hg h0 (by simp)).1 (hg h0 (by simp)).2 (hg h1 (by simp)).1 (hg h1 (by simp)).2 (hg h2 (by simp)).1 (hg h2 (by simp)).2 (hg h3 (by simp)).1 (hg h3 (by simp)).2 (hg h4 (by simp)).1 (hg h4 (by simp)).2 (hg h5 (by simp)).1 (hg h5 (by simp)).2 (hg h6 (by simp)).1 (hg h6 (by simp)).2
  | [h0, h1, h2, h3, h4, h5, h6, h7], _, _, hg => exact good_3_8 h0 h1 h2 h3 h4 h5 h6 h7 (hg h0 (by simp)).1 (hg h0 (by simp)).2 (hg h1 (by simp)).1 (hg h1 (by simp)).2 (hg h2 (by simp)).1 (hg h2 (by simp)).2 (hg h3 (by simp)).1 (hg h3 (by simp)).2 (hg h4 (by simp)).1 (hg h4 (by simp)).2 (hg h5 (by simp)).1 (hg h5 (by simp)).2 (hg h6 (by simp)).1 (hg h6 (by simp)).2 (hg h7 (by simp)).1 (hg h7 (by simp)).2
  | _ :: _ :: _ :: _ :: _ :: _ :: _ :: _ :: _ :: _, _, h, _ => exact absurd h (by simp only [List.length_cons]; omega)
theorem bad7_m3 (l : List Int) (h1 : 1 ≤ l.length) (h8 : l.length ≤ 8) (hb : ¬ good 3 l) : runTo 7 3 l zero7 := by
  match l, h1, h8, hb with
  | [], h, _, _ => exact absurd h (by simp)
  | [h0], _, _, hb => exact bad7_3_1 h0 (fun hc => hb (by simpa only [good, List.forall_mem_cons, List.forall_mem_nil, List.not_mem_nil, false_implies, implies_true, and_true] using hc))
  | [h0, h1], _, _, hb => exact bad7_3_2 h0 h1 (fun hc => hb (by simpa only [good, List.forall_mem_cons, List.forall_mem_nil, List.not_mem_nil, false_implies, implies_true, and_true] using hc))
  | [h0, h1, h2], _, _, hb => exact bad7_3_3 h0 h1 h2 (fun hc => hb (by simpa only [good, List.forall_mem_cons, List.forall_mem_nil, List.not_mem_nil, false_implies, implies_true, and_true] using hc))
  | [h0, h1, h2, h3], _, _, hb => exact bad7_3_4 h0 h1 h2 h3 (fun hc => hb (by simpa only [good, List.forall_mem_cons, List.forall_mem_nil, List.not_mem_nil, false_implies, implies_true, and_true] using hc))
  | [h0, h1, h2, h3, h4], _, _, hb => exact bad7_3_5 h0 h1 h2 h3 h4 (fun hc => hb (by simpa only [good, List.forall_mem_cons, List.forall_mem_nil, List.not_mem_nil, false_implies, implies_true, and_true] using hc))
  | [h0, h1, h2, h3, h4, h5], _, _, hb => exact bad7_3_6 h0 h1 h2 h3 h4 h5 (fun hc => hb (by simpa only [good, List.forall_mem_cons, List.forall_mem_nil, List.not_mem_nil, false_implies, implies_true, and_true] using hc))
  | [h0, h1, h2, h3, h4, h5, h6], _, _, hb => exact bad7_3_7 h0 h1 h2 h3 h4 h5 h6 (fun hc => hb (by simpa only [good, List.forall_mem_cons, List.forall_mem_nil, List.not_mem_nil, false_implies, implies_true, and_true] using hc))
  | [h0, h1, h2, h3, h4, h5, h6, h7], _, _, hb => exact bad7_3_8 h0 h1 h2 h3 h4 h5 h6 h7 (fun hc => hb (by simpa only [good, List.forall_mem_cons, List.forall_mem_nil, List.not_mem_nil, false_implies, implies_true, and_true] using hc))
  | _ :: _ :: _ :: _ :: _ :: _ :: _ :: _ :: _ :: _, _, h, _ => exact absurd h (by simp only [List.length_cons]; omega)
theorem bad8_m3 (l : List Int) (h1 : 1 ≤ l.length) (h8 : l.length ≤ 8) (hb : ¬ good 3 l) : runTo 8 3 l zero8 := by
  match l, h1, h8, hb with
  | [], h, _, _ => exact absurd h (by simp)
  | [h0], _, _, hb => exact bad8_3_1 h0 (fun hc => hb (by simpa only [good, List.forall_mem_cons, List.forall_mem_nil, List.not_mem_nil, false_implies, implies_true, and_true] using hc))
  | [h0, h1], _, _, hb => exact bad8_3_2 h0 h1 (fun hc => hb (by simpa only [good, List.forall_mem_cons, List.forall_mem_nil, List.not_mem_nil, false_implies, implies_true, and_true] using hc))
  | [h0, h1, h2], _, _, hb => exact bad8_3_3 h0 h1 h2 (fun hc => hb (by simpa only [good, List.forall_mem_cons, List.forall_mem_nil, List.not_mem_nil, false_implies, implies_true, and_true] using hc))
  | [h0, h1, h2, h3], _, _, hb => exact bad8_3_4 h0 h1 h2 h3 (fun hc => hb (by simpa only [good, List.forall_mem_cons, List.forall_mem_nil, List.not_mem_nil, false_implies, implies_true, and_true] using hc))
  | [h0, h1, h2, h3, h4], _, _, hb => exact bad8_3_5 h0 h1 h2 h3 h4 (fun hc => hb (by simpa only [good, List.forall_mem_cons, List.forall_mem_nil, List.not_mem_nil, false_implies, implies_true, and_true] using hc))
  | [h0, h1, h2, h3, h4, h5], _, _, hb => exact bad8_3_6 h0 h1 h2 h3 h4 h5 (fun hc => hb (by simpa only [good, List.forall_mem_cons, List.forall_mem_nil, List.not_mem_nil, false_implies, implies_true, and_true] using hc))
  | [h0, h1, h2, h3, h4, h5, h6], _, _, hb => exact bad8_3_7 h0 h1 h2 h3 h4 h5 h6 (fun hc => hb (by simpa only [good, List.forall_mem_cons, List.forall_mem_nil, List.not_mem_nil, false_implies, implies_true, and_true] using hc))
  | [h0, h1, h2, h3, h4, h5, h6, h7], _, _, hb => exact bad8_3_8 h0 h1 h2 h3 h4 h5 h6 h7 (fun hc => hb (by simpa only [good, List.forall_mem_cons, List.forall_mem_nil, List.not_mem_nil, false_implies, implies_true, and_true] using hc))
  | _ :: _ :: _ :: _ :: _ :: _ :: _ :: _ :: _ :: _, _, h, _ => exact absurd h (by simp only [List.length_cons]; omega)
theorem good_m4 (l : List Int) (h1 : 1 ≤ l.length) (h8 : l.length ≤ 8) (hg : good 4 l) : runLaw 4 l := by
  match l, h1, h8, hg with
  | [], h, _, _ => exact absurd h (by simp)
  | [h0], _, _, hg => exact good_4_1 h0 (hg h0 (by simp)).1 (hg h0 (by simp)).2
  | [h0, h1], _, _, hg => exact good_4_2 h0 h1 (hg h0 (by simp)).1 (hg h0 (by simp)).2 (hg h1 (by simp)).1 (hg h1 (by simp)).2
  | [h0, h1, h2], _, _, hg => exact good_4_3 h0 h1 h2 (hg h0 (by simp)).1 (hg h0 (by simp)).2 (hg h1 (by simp)).1 (hg h1 (by simp)).2 (hg h2 (by simp)).1 (hg h2 (by simp)).2
  | [h0, h1, h2, h3], _, _, hg => exact good_4_4 h0 h1 h2 h3 (hg h0 (by simp)).1 (hg h0 (by simp)).2 (hg h1 (by simp)).1 (hg h1 (by simp)).2 (hg h2 (by simp)).1 (hg h2 (by simp)).2 (hg h3 (by simp)).1 (hg h3 (by simp)).2
  | [h0, h1, h2, h3, h4], _, _, hg => exact good_4_5 h0 h1 h2 h3 h4 (hg h0 (by simp)).1 (hg h0 (by simp)).2 (hg h1 (by simp)).1 (hg h1 (by simp)).2 (hg h2 (by simp)).1 (hg h2 (by simp)).2 (hg h3 (by simp)).1 (hg h3 (by simp)).2 (hg h4 (by simp)).1 (hg h4 (by simp)).2
  | [h0, h1, h2, h3, h4, h5], _, _, hg => exact good_4_6 h0 h1 h2 h3 h4 h5 (hg h0 (by simp)).1 (hg h0 (by simp)).2 (hg h1 (by simp)).1 (hg h1 (by simp)).2 (hg h2 (by simp)).1 (hg h2 (by simp)).2 (hg h3 (by simp)).1 (hg h3 (by simp)).2 (hg h4 (by simp)).1 (hg h4 (by simp)).2 (hg h5 (by simp)).1 (hg h5 (by simp)).2
  | [h0, h1, h2, h3, h4, h5, h6], _, _, hg => exact good_4_7 h0 h1 h2 h3 h4 h5 h6 (hg h0 (by simp)).1 (hg h0 (by simp)).2 (hg h1 (by simp)).1 (hg h1 (by simp)).2 (hg h2 (by simp)).1 (hg h2 (by simp)).2 (hg h3 (by simp)).1 (hg h3 (by simp)).2 (hg h4 (by simp)).1 (hg h4 (by simp)).2 (hg h5 (by simp)).1 (hg h5 (by simp)).2 (hg h6 (by simp)).1 (hg h6 (by simp)).2
  | [h0, h1, h2, h3, h4, h5, h6, h7], _, _, hg => exact good_4_8 h0 h1 h2 h3 h4 h5 h6 h7 (hg h0 (by simp)).1 (hg h0 (by simp)).2 (hg h1 (by simp)).1 (hg h1 (by simp)).2 (hg h2 (by simp)).1 (hg h2 (by simp)).2 (hg h3 (by simp)).1 (hg h3 (by simp)).2 (hg h4 (by simp)).1 (hg h4 (by simp)).2 (hg h5 (by simp)).1 (hg h5 (by simp)).2 (hg h6 (by simp)).1 (hg h6 (by simp)).2 (hg h7 (by simp)).1 (hg h7 (by simp)).2
  | _ :: _ :: _ :: _ :: _ :: _ :: _ :: _ :: _ :: _, _, h, _ => exact absurd h (by simp only [List.length_cons]; omega)
theorem bad7_m4 (l : List Int) (h1 : 1 ≤ l.length) (h8 : l.length ≤ 8) (hb : ¬ good 4 l) : runTo 7 4 l zero7 := by
  match l, h1, h8, hb with
  | [], h, _, _ => exact absurd h (by simp)
  | [h0], _, _, hb => exact bad7_4_1 h0 (fun hc => hb (by simpa only [good, List.forall_mem_cons, List.forall_mem_nil, List.not_mem_nil, false_implies, implies_true, and_true] using hc))
  | [h0, h1], _, _, hb => exact bad7_4_2 h0 h1 (fun hc => hb (by simpa only [good, List.forall_mem_cons, List.forall_mem_nil, List.not_mem_nil, false_implies, implies_true, and_true] using hc))
  | [h0, h1, h2], _, _, hb => exact bad7_4_3 h0 h1 h2 (fun hc => hb (by simpa only [good, List.forall_mem_cons, List.forall_mem_nil, List.not_mem_nil, false_implies, implies_true, and_true] using hc))
  | [h0, h1, h2, h3], _, _, hb => exact bad7_4_4 h0 h1 h2 h3 (fun hc => hb (by simpa only [good, List.forall_mem_cons, List.forall_mem_nil, List.not_mem_nil, false_implies, implies_true, and_true] using hc))
  | [h0, h1, h2, h3, h4], _, _, hb => exact bad7_4_5 h0 h1 h2 h3 h4 (fun hc => hb (by simpa only [good, List.forall_mem_cons, List.forall_mem_nil, List.not_mem_nil, false_implies, implies_true, and_true] using hc))
  | [h0, h1, h2, h3, h4, h5], _, _, hb => exact bad7_4_6 h0 h1 h2 h3 h4 h5 (fun hc => hb (by simpa only [good, List.forall_mem_cons, List.forall_mem_nil, List.not_mem_nil, false_implies, implies_true, and_true] using hc))
  | [h0, h1, h2, h3, h4, h5, h6], _, _, hb => exact bad7_4_7 h0 h1 h2 h3 h4 h5 h6 (fun hc => hb (by simpa only [good, List.forall_mem_cons, List.forall_mem_nil, List.not_mem_nil, false_implies, implies_true, and_true] using hc))
  | [h0, h1, h2, h3, h4, h5, h6, h7], _, _, hb => exact bad7_4_8 h0 h1 h2 h3 h4 h5 h6 h7 (fun hc => hb (by simpa only [good, List.forall_mem_cons, List.forall_mem_nil, List.not_mem_nil, false_implies, implies_true, and_true] using hc))
  | _ :: _ :: _ :: _ :: _ :: _ :: _ :: _ :: _ :: _, _, h, _ => exact absurd h (by simp only [List.length_cons]; omega)
theorem bad8_m4 (l : List Int) (h1 : 1 ≤ l.length) (h8 : l.length ≤ 8) (hb : ¬ good 4 l) : runTo 8 4 l zero8 := by
  match l, h1, h8, hb with
  | [], h, _, _ => exact absurd h (by simp)
  | [h0], _, _, hb => exact bad8_4_1 h0 (fun hc => hb (by simpa only [good, List.forall_mem_cons, List.forall_mem_nil, List.not_mem_nil, false_implies, implies_true, and_true] using hc))
  | [h0, h1], _, _, hb => exact bad8_4_2 h0 h1 (fun hc => hb (by simpa only [good, List.forall_mem_cons, List.forall_mem_nil, List.not_mem_nil, false_implies, implies_true, and_true] using hc))
  | [h0, h1, h2], _, _, hb => exact bad8_4_3 h0 h1 h2 (fun hc => hb (by simpa only [good, List.forall_mem_cons, List.forall_mem_nil, List.not_mem_nil, false_implies, implies_true, and_true] using hc))
  | [h0, h1, h2, h3], _, _, hb => exact bad8_4_4 h0 h1 h2 h3 (fun hc => hb (by simpa only [good, List.forall_mem_cons, List.forall_mem_nil, List.not_mem_nil, false_implies, implies_true, and_true] using hc))
  | [h0, h1, h2, h3, h4], _, _, hb => exact bad8_4_5 h0 h1 h2 h3 h4 (fun hc => hb (by simpa only [good, List.forall_mem_cons, List.forall_mem_nil, List.not_mem_nil, false_implies, implies_true, and_true] using hc))
  | [h0, h1, h2, h3, h4, h5], _, _, hb => exact bad8_4_6 h0 h1 h2 h3 h4 h5 (fun hc => hb (by simpa only [good, List.forall_mem_cons, List.forall_mem_nil, List.not_mem_nil, false_implies, implies_true, and_true] using hc))
  | [h0, h1, h2, h3, h4, h5, h6], _, _, hb => exact bad8_4_7 h0 h1 h2 h3 h4 h5 h6 (fun hc => hb (by simpa only [good, List.forall_mem_cons, List.forall_mem_nil, List.not_mem_nil, false_implies, implies_true, and_true] using hc))
  | [h0, h1, h2, h3, h4, h5, h6, h7], _, _, hb => exact bad8_4_8 h0 h1 h2 h3 h4 h5 h6 h7 (fun hc => hb (by simpa only [good, List.forall_mem_cons, List.forall_mem_nil, List.not_mem_nil, false_implies, implies_true, and_true] using hc))
  | _ :: _ :: _ :: _ :: _ :: _ :: _ :: _ :: _ :: _, _, h, _ => exact absurd h (by simp only [List.length_cons]; omega)
theorem good_m5 (l : List Int) (h1 : 1 ≤ l.length) (h8 : l.length ≤ 8) (hg : good 5 l) : runLaw 5 l := by
  match l, h1, h8, hg with
  | [], h, _, _ => exact absurd h (by simp)
  | [h0], _, _, hg => exact good_5_1 h0 (hg h0 (by simp)).1 (hg h0 (by simp)).2
  | [h0, h1], _, _, hg => exact good_5_2 h0 h1 (hg h0 (by simp)).1 (hg h0 (by simp)).2 (hg h1 (by simp)).1 (hg h1 (by simp)).2
  | [h0, h1, h2], _, _, hg => exact good_5_3 h0 h1 h2 (hg h0 (by simp)).1 (hg h0 (by simp)).2 (hg h1 (by simp)).1 (hg h1 (by simp)).2 (hg h2 (by simp)).1 (hg h2 (by simp)).2
  | [h0, h1, h2, h3], _, _, hg => exact good_5_4 h0 h1 h2 h3 (hg h0 (by simp)).1 (hg h0 (by simp)).2 (hg h1 (by simp)).1 (hg h1 (by simp)).2 (hg h2 (by simp)).1 (hg h2 (by simp)).2 (hg h3 (by simp)).1 (hg h3 (by simp)).2
  | [h0, h1, h2, h3, h4], _, _, hg => exact good_5_5 h0 h1 h2 h3 h4 (hg h0 (by simp)).1 (hg h0 (by simp)).2 (hg h1 (by simp)).1 (hg h1 (by simp)).2 (hg h2 (by simp)).1 (hg h2 (by simp)).2 (hg h3 (by simp)).1 (hg h3 (by simp)).2 (hg h4 (by simp)).1 (hg h4 (by simp)).2
  | [h0, h1, h2, h3, h4, h5], _, _, hg => exact good_5_6 h0 h1 h2 h3 h4 h5 (hg h0 (by simp)).1 (hg h0 (by simp)).2 (hg h1 (by simp)).1 (hg h1 (by simp)).2 (hg h2 (by simp)).1 (hg h2 (by simp)).2 (hg h3 (by simp)).1 (hg h3 (by simp)).2 (hg h4 (by simp)).1 (hg h4 (by simp)).2 (hg h5 (by simp)).1 (hg h5 (by simp)).2
  | [h0, h1, h2, h3, h4, h5, h6], _, _, hg => exact good_5_7 h0 h1 h2 h3 h4 h5 h6 (hg h0 (by simp)).1 (hg h0 (by simp)).2 (hg h1 (by simp)).1 (hg h1 (by simp)).2 (hg h2 (by simp)).1 (hg h2 (by simp)).2 (hg h3 (by simp)).1 (hg h3 (by simp)).2 (hg h4 (by simp)).1 (hg h4 (by simp)).2 (hg h5 (by simp)).1 (hg h5 (by simp)).2 (hg h6 (by simp)).1 (hg h6 (by simp)).2
  | [h0, h1, h2, h3, h4, h5, h6, h7], _, _, hg => exact good_5_8 h0 h1 h2 h3 h4 h5 h6 h7 (hg h0 (by simp)).1 (hg h0 (by simp)).2 (hg h1 (by simp)).1 (hg h1 (by simp)).2 (hg h2 (by simp)).1 (hg h2 (by simp)).2 (hg h3 (by simp)).1 (hg h3 (by simp)).2 (hg h4 (by simp)).1 (hg h4 (by simp)).2 (hg h5 (by simp)).1 (hg h5 (by simp)).2 (hg h6 (by simp)).1 (hg h6 (by simp)).2 (hg h7 (by simp)).1 (hg h7 (by simp)).2
  | _ :: _ :: _ :: _ :: _ :: _ :: _ :: _ :: _ :: _, _, h, _ => exact absurd h (by simp only [List.length_cons]; omega)
theorem bad7_m5 (l : List Int) (h1 : 1 ≤ l.length) (h8 : l.length ≤ 8) (hb : ¬ good 5 l) : runTo 7 5 l zero7 := by
  match l, h1, h8, hb with
  | [], h, _, _ => exact absurd h (by simp)
  | [h0], _, _, hb => exact bad7_5_1 h0 (fun hc => hb (by simpa only [good, List.forall_mem_cons, List.forall_mem_nil, List.not_mem_nil, false_implies, implies_true, and_true] using hc))
  | [h0, h1], _, _, hb => exact bad7_5_2 h0 h1 (fun hc => hb (by simpa only [good, List.forall_mem_cons, List.forall_mem_nil, List.not_mem_nil, false_implies, implies_true, and_true] using hc))
  | [h0, h1, h2], _, _, hb => exact bad7_5_3 h0 h1 h2 (fun hc => hb (by simpa only [good, List.forall_mem_cons, List.forall_mem_nil, List.not_mem_nil, false_implies, implies_true, and_true] using hc))
  | [h0, h1, h2, h3], _, _, hb => exact bad7_5_4 h0 h1 h2 h3 (fun hc => hb (by simpa only [good, List.forall_mem_cons, List.forall_mem_nil, List.not_mem_nil, false_implies, implies_true, and_true] using hc))
  | [h0, h1, h2, h3, h4], _, _, hb => exact bad7_5_5 h0 h1 h2 h3 h4 (fun hc => hb (by simpa only [good, List.forall_mem_cons, List.forall_mem_nil, List.not_mem_nil, false_implies, implies_true, and_true] using hc))
  | [h0, h1, h2, h3, h4, h5], _, _, hb => exact bad7_5_6 h0 h1 h2 h3 h4 h5 (fun hc => hb (by simpa only [good, List.forall_mem_cons, List.forall_mem_nil, List.not_mem_nil, false_implies, implies_true, and_true] using hc))
  | [h0, h1, h2, h3, h4, h5, h6], _, _, hb => exact bad7_5_7 h0 h1 h2 h3 h4 h5 h6 (fun hc => hb (by simpa only [good, List.forall_mem_cons, List.forall_mem_nil, List.not_mem_nil, false_implies, implies_true, and_true] using hc))
  | [h0, h1, h2, h3, h4, h5, h6, h7], _, _, hb => exact bad7_5_8 h0 h1 h2 h3 h4 h5 h6 h7 (fun hc => hb (by simpa only [good, List.forall_mem_cons, List.forall_mem_nil, List.not_mem_nil, false_implies, implies_true, and_true] using hc))
  | _ :: _ :: _ :: _ :: _ :: _ :: _ :: _ :: _ :: _, _, h, _ => exact absurd h (by simp only [List.length_cons]; omega)
theorem bad8_m5 (l : List Int) (h1 : 1 ≤ l.length) (h8 : l.length ≤ 8) (hb : ¬ good 5 l) : runTo 8 5 l zero8 := by
  match l, h1, h8, hb with
  | [], h, _, _ => exact absurd h (by simp)
  | [h0], _, _, hb => exact bad8_5_1 h0 (fun hc => hb (by simpa only [good, List.forall_mem_cons, List.forall_mem_nil, List.not_mem_nil, false_implies, implies_true, and_true] using hc))
  | [h0, h1], _, _, hb => exact bad8_5_2 h0 h1 (fun hc => hb (by simpa only [good, List.forall_mem_cons, List.forall_mem_nil, List.not_mem_nil, false_implies, implies_true, and_true] using hc))
  | [h0, h1, h2], _, _, hb => exact bad8_5_3 h0 h1 h2 (fun hc => hb (by simpa only [good, List.forall_mem_cons, List.forall_mem_nil, List.not_mem_nil, false_implies, implies_true, and_true] using hc))
  | [h0, h1, h2, h3], _, _, hb => exact bad8_5_4 h0 h1 h2 h3 (fun hc => hb (by simpa only [good, List.forall_mem_cons, List.forall_mem_nil, List.not_mem_nil, false_implies, implies_true, and_true] using hc))
  | [h0, h1, h2, h3, h4], _, _, hb => exact bad8_5_5 h0 h1 h2 h3 h4 (fun hc => hb (by simpa only [good, List.forall_mem_cons, List.forall_mem_nil, List.not_mem_nil, false_implies, implies_true, and_true] using hc))
  | [h0, h1, h2, h3, h4, h5], _, _, hb => exact bad8_5_6 h0 h1 h2 h3 h4 h5 (fun hc => hb (by simpa only [good, List.forall_mem_cons, List.forall_mem_nil, List.not_mem_nil, false_implies, implies_true, and_true] using hc))
  | [h0, h1, h2, h3, h4, h5, h6], _, _, hb => exact bad8_5_7 h0 h1 h2 h3 h4 h5 h6 (fun hc => hb (by simpa only [good, List.forall_mem_cons, List.forall_mem_nil, List.not_mem_nil, false_implies, implies_true, and_true] using hc))
  | [h0, h1, h2, h3, h4, h5, h6, h7], _, _, hb => exact bad8_5_8 h0 h1 h2 h3 h4 h5 h6 h7 (fun hc => hb (by simpa only [good, List.forall_mem_cons, List.forall_mem_nil, List.not_mem_nil, false_implies, implies_true, and_true] using hc))
  | _ :: _ :: _ :: _ :: _ :: _ :: _ :: _ :: _ :: _, _, h, _ => exact absurd h (by simp only [List.length_cons]; omega)

theorem mids {m : Int} (h : 1 ≤ m ∧ m ≤ 5) : m = 1 ∨ m = 2 ∨ m = 3 ∨ m = 4 ∨ m = 5 := by omega
theorem good_all (m : Int) (l : List Int) (hf : fits m l) (hg : good m l) : runLaw m l := by
  rcases mids hf.1 with rfl | rfl | rfl | rfl | rfl
  · exact good_m1 l hf.2.1 hf.2.2 hg
  · exact good_m2 l hf.2.1 hf.2.2 hg
  · exact good_m3 l hf.2.1 hf.2.2 hg
  · exact good_m4 l hf.2.1 hf.2.2 hg
  · exact good_m5 l hf.2.1 hf.2.2 hg
theorem bad7_all (m : Int) (l : List Int) (hf : fits m l) (hg : ¬ good m l) : runTo 7 m l zero7 := by
  rcases mids hf.1 with rfl | rfl | rfl | rfl | rfl
  · exact bad7_m1 l hf.2.1 hf.2.2 hg
  · exact bad7_m2 l hf.2.1 hf.2.2 hg
  · exact bad7_m3 l hf.2.1 hf.2.2 hg
  · exact bad7_m4 l hf.2.1 hf.2.2 hg
  · exact bad7_m5 l hf.2.1 hf.2.2 hg
theorem bad8_all (m : Int) (l : List Int) (hf : fits m l) (hg : ¬ good m l) : runTo 8 m l zero8 := by
  rcases mids hf.1 with rfl | rfl | rfl | rfl | rfl
  · exact bad8_m1 l hf.2.1 hf.2.2 hg
  · exact bad8_m2 l hf.2.1 hf.2.2 hg
  · exact bad8_m3 l hf.2.1 hf.2.2 hg
  · exact bad8_m4 l hf.2.1 hf.2.2 hg
  · exact bad8_m5 l hf.2.1 hf.2.2 hg

/-- A call with arguments, as reckoned. -/
def xtrueA (P : Program) (ok : List FuncId) (fuel d : Nat) (f : FuncId) (args : List Value) : Bool :=
  match xfun P ok fuel d (.func f) args ⟨0, .nil⟩ with
  | some (.bool true, _) => true
  | _ => false
theorem icalls_xtrueA {P : Program} {f : FuncId} {ok : List FuncId} {fuel d : Nat} {args : List Value} (hm : P.follows .mixedOrders = true) (hok : ok.all (fnOk P) = true) (hx : xtrueA P ok fuel d f args = true) : ICalls P f args [] (fun e _ => e = .ret (.bool true)) := by
  unfold xtrueA at hx
  split at hx
  · rename_i h' hh
    obtain ⟨H', _, hc⟩ := xfun_sound hm hok fuel d _ _ _ _ _ hh [] ⟨rfl, fun i => by simp [Tr.get]⟩
    exact ICalls.mono (show ICalls P f args [] _ from hc) fun r H' h => h.1
  · cases hx

theorem none_true : xtrueA Pr lawFns 400 10 9 [zeroW] = true := by kernel_rfl
theorem none_ok (H : IHeap) : ICalls Pr 9 [zeroW] H (fun r H' => r = .ret (.bool true) ∧ H' = H) := lift0 rfl rfl (icalls_xtrueA mixed lawFns_ok none_true) H

theorem ground_ints : ∀ l : List Int, ground.groundL (ints l) = true
  | [] => rfl
  | n :: l => by show (true && ground.groundL (ints l)) = true; rw [ground_ints l]; rfl

/-- What may be called where there is no world. -/
def scBad (m : Int) (l : List Int) (a : Option Addr) : SCall := fun g args H K =>
  bif Nat.beq g 6 then (bif args.isEmpty then K (.bool true) H else False)
  else bif Nat.beq g 7 then args = [.int .i64 m, .slice a l.length l.length] ∧ H[0]? = some (.cells (ints l) false) ∧ K zero7 H
  else bif Nat.beq g 8 then args = [.int .i64 m, .slice a l.length l.length] ∧ H[0]? = some (.cells (ints l) false) ∧ K zero8 H
  else bif Nat.beq g 9 then args = [zeroW] ∧ K (.bool true) H
  else False
theorem bif2 {b : Bool} {X Y : Prop} (h : bif b then X else Y) : (b = true ∧ X) ∨ (b = false ∧ Y) := by cases b with | true => exact .inl ⟨rfl, h⟩ | false => exact .inr ⟨rfl, h⟩

theorem lift1 {f : FuncId} {m : Int} {l : List Int} {z : Bool} {v : Value} (hv : plainV v = true) (h : ICalls Pr f [.int .i64 m, .slice (adr z) l.length l.length] [.cells (ints l) false] (fun r _ => r = .ret v)) {H : IHeap} (h0 : H[0]? = some (.cells (ints l) false)) :
    ICalls Pr f [.int .i64 m, .slice (adr z) l.length l.length] H (fun r H' => r = .ret v ∧ H' = H) := by
  have h2 : ICalls Pr f [.int .i64 m, .slice (adr z) l.length l.length] [.cells (ints l) false] (fun r H' => r = .ret v ∧ ∀ (i : Nat) (o : IObj), ([.cells (ints l) false] : IHeap)[i]? = some o → o.own = true → H'[i]? = some o) := by
    refine h.mono fun r H' hr => ⟨hr, fun i o ho hown => ?_⟩
    match i, ho with
    | 0, ho => cases ho; cases hown
    | i + 1, ho => simp at ho
  have h3 := h2.frame id (plainV_rel hv) (H := H) ?_ ?_ ?_ ?_
  · rw [ren_ids] at h3
    exact h3
  · simp [plainO, ground_ints]
  · cases z <;> rfl
  · intro i hi
    match i, hi with
    | 0, _ => exact h0
    | i + 1, hi => exact absurd hi (by simp)
  · intro i j _ _ h
    exact h

theorem scBad_ok {m : Int} {l : List Int} {z : Bool} (h7 : ICalls Pr 7 [.int .i64 m, .slice (adr z) l.length l.length] [.cells (ints l) false] (fun r _ => r = .ret zero7)) (h8 : ICalls Pr 8 [.int .i64 m, .slice (adr z) l.length l.length] [.cells (ints l) false] (fun r _ => r = .ret zero8)) : SOk Pr (scBad m l (adr z)) := by
  intro g args H K h
  unfold scBad at h
  rcases bif2 h with ⟨hg, hk⟩ | ⟨_, h⟩
  · have := Nat.eq_of_beq_eq_true hg
    subst this
    obtain ⟨he, hk⟩ := bifF hk
    have he := List.isEmpty_iff.1 he
    subst he
    exact (known_ok H).mono fun r H' hr => ⟨_, hr.1, by rw [hr.2]; exact hk⟩
  rcases bif2 h with ⟨hg, rfl, h0, hk⟩ | ⟨_, h⟩
  · have := Nat.eq_of_beq_eq_true hg
    subst this
    exact (lift1 rfl h7 h0).mono fun r H' hr => ⟨_, hr.1, by rw [hr.2]; exact hk⟩
  rcases bif2 h with ⟨hg, rfl, h0, hk⟩ | ⟨_, h⟩
  · have := Nat.eq_of_beq_eq_true hg
    subst this
    exact (lift1 rfl h8 h0).mono fun r H' hr => ⟨_, hr.1, by rw [hr.2]; exact hk⟩
  obtain ⟨hg, rfl, hk⟩ := bifF h
  have := Nat.eq_of_beq_eq_true hg
  subst this
  exact (none_ok H).mono fun r H' hr => ⟨_, hr.1, by rw [hr.2]; exact hk⟩

theorem law_bad (m : Int) (l : List Int) (z : Bool) (h7 : ICalls Pr 7 [.int .i64 m, .slice (adr z) l.length l.length] [.cells (ints l) false] (fun r _ => r = .ret zero7)) (h8 : ICalls Pr 8 [.int .i64 m, .slice (adr z) l.length l.length] [.cells (ints l) false] (fun r _ => r = .ret zero8)) :
    ICalls Pr 3 [.int .i64 m, .slice (adr z) l.length l.length] [.cells (ints l) false] (fun r _ => r = .ret (.bool true)) := by
  generalize ha : adr z = a
  rw [ha] at h7 h8
  have hs : SOk Pr (scBad m l a) := by rw [← ha] at h7 h8 ⊢; exact scBad_ok h7 h8
  refine icalls_sx (by kernel_rfl) (iwl_last (hs := []) (rf := true) mixed hs _ (by kernel_rfl) ?_)
  refine Eq.mp (α := (Ide.bcase (decide (((l.length : Nat) : Int) > 30))
 (IEnd.ret (Value.bool true) = IEnd.ret (Value.bool true))
 ([Value.int IntKind.i64 m, Value.slice a l.length l.length] = [Value.int IntKind.i64 m, Value.slice a l.length l.length] ∧ (some (.cells (ints l) false) : Option IObj) = some (.cells (ints l) false) ∧ ([Value.int IntKind.i64 m, Value.slice a l.length l.length] = [Value.int IntKind.i64 m, Value.slice a l.length l.length] ∧ (some (.cells (ints l) false) : Option IObj) = some (.cells (ints l) false) ∧ ([zeroW] = [zeroW] ∧ (IEnd.ret (Value.bool true) = IEnd.ret (Value.bool true))))))) (by kernel_rfl) ?_
  exact bcI (fun h => rfl) (fun h => ⟨rfl, rfl, rfl, rfl, rfl, rfl⟩)

theorem law_ok (m : Int) (l : List Int) (z : Bool) (hz : z = true → l = []) : ICalls Pr 3 [.int .i64 m, .slice (adr z) l.length l.length] [.cells (ints l) false] (fun r _ => r = .ret (.bool true)) := by
  by_cases hf : fits m l
  · have hz' : z = false := by
      cases z with
      | false => rfl
      | true =>
        have h1 := hf.2.1
        rw [hz rfl] at h1
        exact absurd h1 (by simp)
    subst hz'
    by_cases hg : good m l
    · exact runLaw_ok (good_all m l hf hg)
    · exact law_bad m l false (runTo_ok (bad7_all m l hf hg)) (runTo_ok (bad8_all m l hf hg))
  · exact law_bad m l z (err7 m l _ hf) (err8 m l _ hf)

end Go.Proofs.YtjjnlbceoajllaaGreat.Firsts
