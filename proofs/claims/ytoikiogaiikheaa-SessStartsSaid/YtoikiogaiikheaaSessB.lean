/- wide, outs, ins: loops over the lists of an end. -/
import Derived.Test.YtoikiogaiikheaaSessA
set_option linter.unusedVariables false
set_option linter.unusedSimpArgs false
set_option maxRecDepth 10000
namespace Go.Proofs.Ytoikiogaiikheaa.Sess
open Go Go.RowKit Ide Go.Proofs

def loopOf (cs : List Code) (i : Nat) : Code := match cs[i]? with | some (.block _ (.loop L)) => L | _ => .skip
noncomputable def sp (f : FuncId) : List Code := Ide.spine (bodyOf Pr f) []

def p2 : Value := .pointer (some ⟨2, 0, none⟩)
def wH (e : SE) (a1 a2 : Option Addr) : IHeap := [.cells (outC e.outs) false, .cells (inC e.ins) false, .cells (endW e a1 a2) true]
theorem wH_in (e : SE) (z1 z2 : Bool) : (wH e (adr z1 0) (adr z2 1)).all (inO 3) = true := by
  have h1 := inVs_ground 3 _ (ground_outC e.outs)
  have h2 := inVs_ground 3 _ (ground_inC e.ins)
  show (inV.goL 3 (outC e.outs) && (inV.goL 3 (inC e.ins) && (inV.goL 3 (endW e (adr z1 0) (adr z2 1)) && true))) = true
  rw [h1, h2]
  cases z1 <;> cases z2 <;> rfl

/-! ### wide -/
def longO (n : Nat) (l : List (ByteArray × Bool)) : Bool := l.any fun x => decide (x.1.size > n)
def longI (n : Nat) (l : List (Int × ByteArray)) : Bool := l.any fun x => decide (x.2.size > n)
def wideS (e : SE) : Bool := decide (e.outs.length > 40) || decide (e.ins.length > 40) || longO 60 e.outs || longI 60 e.ins

noncomputable def A7 : List Code := (sp 7).take 4
noncomputable def B7 : List Code := ((sp 7).drop 5).take 1
noncomputable def C7 : List Code := (sp 7).drop 7
noncomputable def L7a : Code := loopOf (sp 7) 4
noncomputable def L7b : Code := loopOf (sp 7) 6
theorem sp7 : Ide.spine (bodyOf Pr 7) [] = A7 ++ .block 0 (.loop L7a) :: (B7 ++ .block 2 (.loop L7b) :: C7) := by kernel_rfl

theorem wide_l1z (e : SE) (Qb : IExit → Env → IHeap → Prop) (ho : e.outs = []) (hx : Qb (.exit 0) [(1, p2), (2, .bool false), (3, .int .i64 0)] (wH e (adr true 0) (adr e.iz 1))) :
    LW none Pr 45 L7a Qb [(1, p2), (2, .bool false), (3, .int .i64 0)] (wH e (adr true 0) (adr e.iz 1)) := by
  refine loop_sx (hs := [27]) (rf := true) mixed sc0_ok [1, 2, 3] (by kernel_rfl) (wH_in e true e.iz) ?_
  obtain ⟨life, peer, phase, base, want, oz, iz, outs, ins⟩ := e
  subst ho
  exact Eq.mp (α := true = true ∧ wH (SE.mk life peer phase base want oz iz [] ins) (adr true 0) (adr iz 1) = wH (SE.mk life peer phase base want oz iz [] ins) (adr true 0) (adr iz 1) ∧ Qb (.exit 0) [(1, p2), (2, .bool false), (3, .int .i64 0)] (wH (SE.mk life peer phase base want oz iz [] ins) (adr true 0) (adr iz 1))) (by kernel_rfl) ⟨rfl, rfl, hx⟩

theorem wide_l1 (e : SE) (Qb : IExit → Env → IHeap → Prop) (hn : e.outs.length ≤ 9223372036854775807) : ∀ (post pre : List (ByteArray × Bool)), e.outs = pre ++ post →
    (longO 60 post = false → Qb (.exit 0) [(1, p2), (2, .bool false), (3, .int .i64 e.outs.length)] (wH e (adr false 0) (adr e.iz 1))) →
    (longO 60 post = true → ∀ i, Qb .ret [(1, p2), (2, .bool true), (3, .int .i64 i)] (wH e (adr false 0) (adr e.iz 1))) →
    LW none Pr 45 L7a Qb [(1, p2), (2, .bool false), (3, .int .i64 (pre.length : Nat))] (wH e (adr false 0) (adr e.iz 1)) := by
  intro post
  induction post with
  | nil =>
    intro pre hp hx hr
    refine loop_sx (hs := [27]) (rf := true) mixed sc0_ok [1, 2, 3] (by kernel_rfl) (wH_in e false e.iz) ?_
    refine Eq.mp (α := (Ide.bcase (decide (((pre.length : Nat) : Int) < ((e.outs.length : Nat) : Int)))
 (0 ≤ ((pre.length : Nat) : Int) ∧ ((pre.length : Nat) : Int) < ((e.outs.length : Nat) : Int) ∧ (∃ s1 : ByteArray, (outC e.outs)[((0 + Int.toNat ((pre.length : Nat) : Int) * 2) + 0)]? = some (Value.string s1) ∧ (Ide.bcase (decide (((ByteArray.size s1 : Nat) : Int) > 60))
 (true = true ∧ (wH e (adr false 0) (adr e.iz 1)) = (wH e (adr false 0) (adr e.iz 1)) ∧ Qb .ret [(1, Value.pointer (some ⟨2, 0, none⟩)), (2, Value.bool true), (3, Value.int IntKind.i64 ((pre.length : Nat) : Int))] (wH e (adr false 0) (adr e.iz 1)))
 (true = true ∧ (wH e (adr false 0) (adr e.iz 1)) = (wH e (adr false 0) (adr e.iz 1)) ∧ LW none Pr 45 L7a Qb [(1, Value.pointer (some ⟨2, 0, none⟩)), (2, Value.bool false), (3, Value.int IntKind.i64 (IntKind.wrap .i64 (((pre.length : Nat) : Int) + 1)))] (wH e (adr false 0) (adr e.iz 1))))))
 (true = true ∧ (wH e (adr false 0) (adr e.iz 1)) = (wH e (adr false 0) (adr e.iz 1)) ∧ Qb (.exit 0) [(1, Value.pointer (some ⟨2, 0, none⟩)), (2, Value.bool false), (3, Value.int IntKind.i64 ((pre.length : Nat) : Int))] (wH e (adr false 0) (adr e.iz 1))))) (by kernel_rfl) ?_
    have hl : pre.length = e.outs.length := by rw [hp]; simp
    refine bcI (fun h => ?_) (fun h => ?_)
    · exfalso; simp at h; omega
    · refine ⟨rfl, rfl, ?_⟩
      rw [hl]
      exact hx rfl
  | cons x post ih =>
    intro pre hp hx hr
    refine loop_sx (hs := [27]) (rf := true) mixed sc0_ok [1, 2, 3] (by kernel_rfl) (wH_in e false e.iz) ?_
    refine Eq.mp (α := (Ide.bcase (decide (((pre.length : Nat) : Int) < ((e.outs.length : Nat) : Int)))
 (0 ≤ ((pre.length : Nat) : Int) ∧ ((pre.length : Nat) : Int) < ((e.outs.length : Nat) : Int) ∧ (∃ s1 : ByteArray, (outC e.outs)[((0 + Int.toNat ((pre.length : Nat) : Int) * 2) + 0)]? = some (Value.string s1) ∧ (Ide.bcase (decide (((ByteArray.size s1 : Nat) : Int) > 60))
 (true = true ∧ (wH e (adr false 0) (adr e.iz 1)) = (wH e (adr false 0) (adr e.iz 1)) ∧ Qb .ret [(1, Value.pointer (some ⟨2, 0, none⟩)), (2, Value.bool true), (3, Value.int IntKind.i64 ((pre.length : Nat) : Int))] (wH e (adr false 0) (adr e.iz 1)))
 (true = true ∧ (wH e (adr false 0) (adr e.iz 1)) = (wH e (adr false 0) (adr e.iz 1)) ∧ LW none Pr 45 L7a Qb [(1, Value.pointer (some ⟨2, 0, none⟩)), (2, Value.bool false), (3, Value.int IntKind.i64 (IntKind.wrap .i64 (((pre.length : Nat) : Int) + 1)))] (wH e (adr false 0) (adr e.iz 1))))))
 (true = true ∧ (wH e (adr false 0) (adr e.iz 1)) = (wH e (adr false 0) (adr e.iz 1)) ∧ Qb (.exit 0) [(1, Value.pointer (some ⟨2, 0, none⟩)), (2, Value.bool false), (3, Value.int IntKind.i64 ((pre.length : Nat) : Int))] (wH e (adr false 0) (adr e.iz 1))))) (by kernel_rfl) ?_
    have hl : e.outs.length = pre.length + post.length + 1 := by rw [hp]; simp; omega
    refine bcI (fun h => ?_) (fun h => ?_)
    · refine ⟨by omega, by omega, x.1, ?_, bcI (fun h2 => ?_) (fun h2 => ?_)⟩
      · rw [hp, show 0 + Int.toNat ((pre.length : Nat) : Int) * 2 + 0 = 2 * pre.length by simp; omega]
        exact (outC_get pre x post).1
      · refine ⟨rfl, rfl, hr ?_ _⟩
        simp only [longO, List.any_cons, Bool.or_eq_true]
        exact .inl (by simp at h2 ⊢; omega)
      · refine ⟨rfl, rfl, ?_⟩
        rw [wrap_i64 (by omega) (by omega), show ((pre.length : Nat) : Int) + 1 = (((pre ++ [x]).length : Nat) : Int) by simp]
        have h3 : decide (x.1.size > 60) = false := by simp at h2 ⊢; omega
        refine ih (pre ++ [x]) (by rw [hp]; simp) (fun h => hx ?_) (fun h i => hr ?_ i)
        · simp only [longO, List.any_cons, h3, Bool.false_or]; exact h
        · simp only [longO, List.any_cons, h3, Bool.false_or]; exact h
    · exfalso; simp at h; omega

theorem wide_l2z (e : SE) (Qb : IExit → Env → IHeap → Prop) (ho : e.ins = []) (hx : Qb (.exit 2) [(1, p2), (2, .bool false), (4, .int .i64 0)] (wH e (adr e.oz 0) (adr true 1))) :
    LW none Pr 45 L7b Qb [(1, p2), (2, .bool false), (4, .int .i64 0)] (wH e (adr e.oz 0) (adr true 1)) := by
  refine loop_sx (hs := [42]) (rf := true) mixed sc0_ok [1, 2, 4] (by kernel_rfl) (wH_in e e.oz true) ?_
  obtain ⟨life, peer, phase, base, want, oz, iz, outs, ins⟩ := e
  subst ho
  exact Eq.mp (α := true = true ∧ wH (SE.mk life peer phase base want oz iz outs []) (adr oz 0) (adr true 1) = wH (SE.mk life peer phase base want oz iz outs []) (adr oz 0) (adr true 1) ∧ Qb (.exit 2) [(1, p2), (2, .bool false), (4, .int .i64 0)] (wH (SE.mk life peer phase base want oz iz outs []) (adr oz 0) (adr true 1))) (by kernel_rfl) ⟨rfl, rfl, hx⟩

theorem wide_l2 (e : SE) (Qb : IExit → Env → IHeap → Prop) (hn : e.ins.length ≤ 9223372036854775807) : ∀ (post pre : List (Int × ByteArray)), e.ins = pre ++ post →
    (longI 60 post = false → Qb (.exit 2) [(1, p2), (2, .bool false), (4, .int .i64 e.ins.length)] (wH e (adr e.oz 0) (adr false 1))) →
    (longI 60 post = true → ∀ i, Qb .ret [(1, p2), (2, .bool true), (4, .int .i64 i)] (wH e (adr e.oz 0) (adr false 1))) →
    LW none Pr 45 L7b Qb [(1, p2), (2, .bool false), (4, .int .i64 (pre.length : Nat))] (wH e (adr e.oz 0) (adr false 1)) := by
  intro post
  induction post with
  | nil =>
    intro pre hp hx hr
    refine loop_sx (hs := [42]) (rf := true) mixed sc0_ok [1, 2, 4] (by kernel_rfl) (wH_in e e.oz false) ?_
    refine Eq.mp (α := (Ide.bcase (decide (((pre.length : Nat) : Int) < ((e.ins.length : Nat) : Int)))
 (0 ≤ ((pre.length : Nat) : Int) ∧ ((pre.length : Nat) : Int) < ((e.ins.length : Nat) : Int) ∧ (∃ s2 : ByteArray, (inC e.ins)[((0 + Int.toNat ((pre.length : Nat) : Int) * 2) + 1)]? = some (Value.string s2) ∧ (Ide.bcase (decide (((ByteArray.size s2 : Nat) : Int) > 60))
 (true = true ∧ (wH e (adr e.oz 0) (adr false 1)) = (wH e (adr e.oz 0) (adr false 1)) ∧ Qb .ret [(1, Value.pointer (some ⟨2, 0, none⟩)), (2, Value.bool true), (4, Value.int IntKind.i64 ((pre.length : Nat) : Int))] (wH e (adr e.oz 0) (adr false 1)))
 (true = true ∧ (wH e (adr e.oz 0) (adr false 1)) = (wH e (adr e.oz 0) (adr false 1)) ∧ LW none Pr 45 L7b Qb [(1, Value.pointer (some ⟨2, 0, none⟩)), (2, Value.bool false), (4, Value.int IntKind.i64 (IntKind.wrap .i64 (((pre.length : Nat) : Int) + 1)))] (wH e (adr e.oz 0) (adr false 1))))))
 (true = true ∧ (wH e (adr e.oz 0) (adr false 1)) = (wH e (adr e.oz 0) (adr false 1)) ∧ Qb (.exit 2) [(1, Value.pointer (some ⟨2, 0, none⟩)), (2, Value.bool false), (4, Value.int IntKind.i64 ((pre.length : Nat) : Int))] (wH e (adr e.oz 0) (adr false 1))))) (by kernel_rfl) ?_
    have hl : pre.length = e.ins.length := by rw [hp]; simp
    refine bcI (fun h => ?_) (fun h => ?_)
    · exfalso; simp at h; omega
    · refine ⟨rfl, rfl, ?_⟩
      rw [hl]
      exact hx rfl
  | cons x post ih =>
    intro pre hp hx hr
    refine loop_sx (hs := [42]) (rf := true) mixed sc0_ok [1, 2, 4] (by kernel_rfl) (wH_in e e.oz false) ?_
    refine Eq.mp (α := (Ide.bcase (decide (((pre.length : Nat) : Int) < ((e.ins.length : Nat) : Int)))
 (0 ≤ ((pre.length : Nat) : Int) ∧ ((pre.length : Nat) : Int) < ((e.ins.length : Nat) : Int) ∧ (∃ s2 : ByteArray, (inC e.ins)[((0 + Int.toNat ((pre.length : Nat) : Int) * 2) + 1)]? = some (Value.string s2) ∧ (Ide.bcase (decide (((ByteArray.size s2 : Nat) : Int) > 60))
 (true = true ∧ (wH e (adr e.oz 0) (adr false 1)) = (wH e (adr e.oz 0) (adr false 1)) ∧ Qb .ret [(1, Value.pointer (some ⟨2, 0, none⟩)), (2, Value.bool true), (4, Value.int IntKind.i64 ((pre.length : Nat) : Int))] (wH e (adr e.oz 0) (adr false 1)))
 (true = true ∧ (wH e (adr e.oz 0) (adr false 1)) = (wH e (adr e.oz 0) (adr false 1)) ∧ LW none Pr 45 L7b Qb [(1, Value.pointer (some ⟨2, 0, none⟩)), (2, Value.bool false), (4, Value.int IntKind.i64 (IntKind.wrap .i64 (((pre.length : Nat) : Int) + 1)))] (wH e (adr e.oz 0) (adr false 1))))))
 (true = true ∧ (wH e (adr e.oz 0) (adr false 1)) = (wH e (adr e.oz 0) (adr false 1)) ∧ Qb (.exit 2) [(1, Value.pointer (some ⟨2, 0, none⟩)), (2, Value.bool false), (4, Value.int IntKind.i64 ((pre.length : Nat) : Int))] (wH e (adr e.oz 0) (adr false 1))))) (by kernel_rfl) ?_
    have hl : e.ins.length = pre.length + post.length + 1 := by rw [hp]; simp; omega
    refine bcI (fun h => ?_) (fun h => ?_)
    · refine ⟨by omega, by omega, x.2, ?_, bcI (fun h2 => ?_) (fun h2 => ?_)⟩
      · rw [hp, show 0 + Int.toNat ((pre.length : Nat) : Int) * 2 + 1 = 2 * pre.length + 1 by simp; omega]
        exact (inC_get pre x post).2
      · refine ⟨rfl, rfl, hr ?_ _⟩
        simp only [longI, List.any_cons, Bool.or_eq_true]
        exact .inl (by simp at h2 ⊢; omega)
      · refine ⟨rfl, rfl, ?_⟩
        rw [wrap_i64 (by omega) (by omega), show ((pre.length : Nat) : Int) + 1 = (((pre ++ [x]).length : Nat) : Int) by simp]
        have h3 : decide (x.2.size > 60) = false := by simp at h2 ⊢; omega
        refine ih (pre ++ [x]) (by rw [hp]; simp) (fun h => hx ?_) (fun h i => hr ?_ i)
        · simp only [longI, List.any_cons, h3, Bool.false_or]; exact h
        · simp only [longI, List.any_cons, h3, Bool.false_or]; exact h
    · exfalso; simp at h; omega

theorem wide_ok {e : SE} (w : Wf e) {H : IHeap} (h0 : H[0]? = some (.cells (outC e.outs) false)) (h1 : H[1]? = some (.cells (inC e.ins) false)) : ICalls Pr 7 [endV e] H (fun r H' => r = .ret (.bool (wideS e)) ∧ H' = H) := by
  refine lift1 rfl (icalls_sx (by kernel_rfl) ?_) h0 h1
  rw [sp7]
  refine iwl_segk (hs := []) (rf := true) mixed sc0_ok [1, 2, 3] A7 _ _ (by kernel_rfl) ?_
  refine Eq.mp (α := (Ide.bcase (decide (((e.outs.length : Nat) : Int) > 40))
 (IEnd.ret (Value.bool true) = .ret (.bool (wideS e)))
 (Ide.bcase (decide (((e.ins.length : Nat) : Int) > 40))
 (IEnd.ret (Value.bool true) = .ret (.bool (wideS e)))
 (IWL none Pr 45 (.block 0 (.loop L7a) :: (B7 ++ .block 2 (.loop L7b) :: C7)) (bodyS Pr (ressOf Pr 7) fun r x => r = .ret (.bool (wideS e))) [(1, Value.pointer (some ⟨2, 0, none⟩)), (2, Value.bool false), (3, Value.int IntKind.i64 0)] (wH e (adr e.oz 0) (adr e.iz 1)))))) (by kernel_rfl) ?_
  have last : ∀ (i : Int), longO 60 e.outs = false → e.outs.length ≤ 40 → e.ins.length ≤ 40 → IWL none Pr 45 (B7 ++ .block 2 (.loop L7b) :: C7) (bodyS Pr (ressOf Pr 7) fun r x => r = .ret (.bool (wideS e))) [(1, p2), (2, .bool false), (3, .int .i64 i)] (wH e (adr e.oz 0) (adr e.iz 1)) := by
    intro i hl h40 h41
    refine iwl_segk (hs := []) (rf := true) mixed sc0_ok [1, 2, 4] B7 _ _ (by kernel_rfl) ?_
    refine Eq.mp (α := IWL none Pr 45 (.block 2 (.loop L7b) :: C7) (bodyS Pr (ressOf Pr 7) fun r x => r = .ret (.bool (wideS e))) [(1, p2), (2, .bool false), (4, .int .i64 0)] (wH e (adr e.oz 0) (adr e.iz 1))) (by kernel_rfl) ?_
    refine iwl_loop ?_
    have fin : ∀ (a : Option Addr) (i : Int), longI 60 e.ins = false → IWL none Pr 45 C7 (bodyS Pr (ressOf Pr 7) fun r x => r = .ret (.bool (wideS e))) [(1, p2), (2, .bool false), (4, .int .i64 i)] (wH e (adr e.oz 0) a) := by
      intro a i hl2
      refine iwl_last (hs := []) (rf := true) mixed sc0_ok C7 (by kernel_rfl) ?_
      refine Eq.mp (α := IEnd.ret (.bool false) = IEnd.ret (.bool (wideS e))) (by kernel_rfl) ?_
      simp [wideS, hl, hl2]
      omega
    have ret : ∀ (a : Option Addr) (i : Int), longI 60 e.ins = true → bodyS Pr (ressOf Pr 7) (fun r x => r = .ret (.bool (wideS e))) .ret [(1, p2), (2, .bool true), (4, .int .i64 i)] (wH e (adr e.oz 0) a) := by
      intro a i hl2
      refine Eq.mp (α := IEnd.ret (.bool true) = IEnd.ret (.bool (wideS e))) (by kernel_rfl) ?_
      simp [wideS, hl2]
    cases hz : e.iz with
    | true =>
      have ho := w.iz hz
      exact wide_l2z e _ ho (fin (adr true 1) _ (by rw [ho]; rfl))
    | false => exact wide_l2 e _ w.inn e.ins [] rfl (fun h => fin (adr false 1) _ h) (fun h i => ret (adr false 1) i h)
  have early : ∀ (x : Bool), wideS e = true → x = true → IEnd.ret (Value.bool x) = IEnd.ret (.bool (wideS e)) := by
    intro x h1 h2; rw [h1, h2]
  refine bcI (fun h => ?_) (fun h => bcI (fun h2 => ?_) (fun h2 => ?_))
  · exact early _ (by simp [wideS] at h ⊢; omega) rfl
  · exact early _ (by simp [wideS] at h2 ⊢; omega) rfl
  · have h40 : e.outs.length ≤ 40 := by simp at h; omega
    have h41 : e.ins.length ≤ 40 := by simp at h2; omega
    refine iwl_loop ?_
    cases hz : e.oz with
    | true =>
      have ho := w.oz hz
      refine wide_l1z e _ ho ?_
      have := last 0 (by rw [ho]; rfl) h40 h41
      rw [hz] at this
      exact this
    | false =>
      refine wide_l1 e _ w.on e.outs [] rfl (fun h => ?_) (fun h i => ?_)
      · have := last e.outs.length h h40 h41
        rw [hz] at this
        exact this
      · refine Eq.mp (α := IEnd.ret (.bool true) = IEnd.ret (.bool (wideS e))) (by kernel_rfl) ?_
        simp [wideS, h]

end Go.Proofs.Ytoikiogaiikheaa.Sess
