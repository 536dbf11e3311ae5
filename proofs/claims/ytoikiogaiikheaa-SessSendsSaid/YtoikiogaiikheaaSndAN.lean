/- outs, ins: what is as defined. -/
import Derived.Test.YtoikiogaiikheaaSndAM
set_option linter.unusedSectionVars false
set_option linter.unusedVariables false
set_option linter.unusedSimpArgs false
set_option maxRecDepth 10000
namespace Go.Proofs.Ytoikiogaiikheaa.Sess
open Go Go.RowKit Ide Go.Proofs

/-! ### outs -/
def okO (F : Int) : Nat → List (ByteArray × Bool) → Bool
  | _, [] => true
  | i, x :: l => decide (x.1.size ≤ 20) && (!x.2 || (decide (1 ≤ i) && decide ((i : Int) < F))) && okO F (i + 1) l
def outsS (e : SE) : Bool := decide (e.outs.length ≤ 12) && okO (flyS e) 0 e.outs

def scFly (e : SE) : SCall := fun g args H K => bif Nat.beq g 38 then (args = [endV e] ∧ H[0]? = some (.cells (outC e.outs) false) ∧ H[1]? = some (.cells (inC e.ins) false) ∧ K (.int .i64 (flyS e)) H) else False
theorem scFly_ok (e : SE) : SOk Pr (scFly e) := by
  intro g args H K h
  unfold scFly at h
  obtain ⟨hg, rfl, h0, h1, hk⟩ := bifF h
  have := Nat.eq_of_beq_eq_true hg
  subst this
  exact (fly_ok e h0 h1).mono fun r H' hr => ⟨_, hr.1, by rw [hr.2]; exact hk⟩

noncomputable def A58 : List Code := (sp 58).take 4
noncomputable def C58 : List Code := (sp 58).drop 5
noncomputable def L58 : Code := loopOf (sp 58) 4
theorem sp58 : Ide.spine (bodyOf Pr 58) [] = A58 ++ .block 0 (.loop L58) :: C58 := by kernel_rfl

theorem outs_lz (e : SE) (Qb : IExit → Env → IHeap → Prop) (ho : e.outs = []) (hx : Qb (.exit 0) [(1, p2), (2, .bool false), (3, .int .i64 0)] (wH e (adr true 0) (adr e.iz 1))) :
    LW none Pr 41 L58 Qb [(1, p2), (2, .bool false), (3, .int .i64 0)] (wH e (adr true 0) (adr e.iz 1)) := by
  refine loop_sx (hs := []) (rf := true) mixed sc0_ok [1, 2, 3] (by kernel_rfl) (wH_in e true e.iz) ?_
  obtain ⟨life, peer, phase, base, want, oz, iz, outs, ins⟩ := e
  subst ho
  exact Eq.mp (α := true = true ∧ wH (SE.mk life peer phase base want oz iz [] ins) (adr true 0) (adr iz 1) = wH (SE.mk life peer phase base want oz iz [] ins) (adr true 0) (adr iz 1) ∧ Qb (.exit 0) [(1, p2), (2, .bool false), (3, .int .i64 0)] (wH (SE.mk life peer phase base want oz iz [] ins) (adr true 0) (adr iz 1))) (by kernel_rfl) ⟨rfl, rfl, hx⟩

theorem outs_l (e : SE) (Qb : IExit → Env → IHeap → Prop) (hn : e.outs.length ≤ 9223372036854775807) (hz : e.oz = false) : ∀ (post pre : List (ByteArray × Bool)), e.outs = pre ++ post →
    (okO (flyS e) pre.length post = true → Qb (.exit 0) [(1, p2), (2, .bool false), (3, .int .i64 e.outs.length)] (wH e (adr false 0) (adr e.iz 1))) →
    (okO (flyS e) pre.length post = false → ∀ i, Qb .ret [(1, p2), (2, .bool false), (3, .int .i64 i)] (wH e (adr false 0) (adr e.iz 1))) →
    LW none Pr 41 L58 Qb [(1, p2), (2, .bool false), (3, .int .i64 (pre.length : Nat))] (wH e (adr false 0) (adr e.iz 1)) := by
  intro post
  induction post with
  | nil =>
    intro pre hp hx hr
    refine loop_sx (hs := [20, 29]) (rf := true) mixed (scFly_ok e) [1, 2, 3] (by kernel_rfl) (wH_in e false e.iz) ?_
    refine Eq.mp (α := (Ide.bcase (decide (((pre.length : Nat) : Int) < ((e.outs.length : Nat) : Int)))
 (0 ≤ ((pre.length : Nat) : Int) ∧ ((pre.length : Nat) : Int) < ((e.outs.length : Nat) : Int) ∧ (∃ s1 : ByteArray, (outC e.outs)[((0 + Int.toNat ((pre.length : Nat) : Int) * 2) + 0)]? = some (Value.string s1) ∧ (Ide.bcase (decide (((ByteArray.size s1 : Nat) : Int) > 20))
 (true = true ∧ (wH e (adr false 0) (adr e.iz 1)) = (wH e (adr false 0) (adr e.iz 1)) ∧ Qb .ret [(1, Value.pointer (some ⟨2, 0, none⟩)), (2, Value.bool false), (3, Value.int IntKind.i64 ((pre.length : Nat) : Int))] (wH e (adr false 0) (adr e.iz 1)))
 (0 ≤ ((pre.length : Nat) : Int) ∧ ((pre.length : Nat) : Int) < ((e.outs.length : Nat) : Int) ∧ (∃ b2 : Bool, (outC e.outs)[((0 + Int.toNat ((pre.length : Nat) : Int) * 2) + 1)]? = some (Value.bool b2) ∧ (Ide.bcase b2
 (Ide.bcase (decide (((pre.length : Nat) : Int) < 1))
 (true = true ∧ (wH e (adr false 0) (adr e.iz 1)) = (wH e (adr false 0) (adr e.iz 1)) ∧ Qb .ret [(1, Value.pointer (some ⟨2, 0, none⟩)), (2, Value.bool false), (3, Value.int IntKind.i64 ((pre.length : Nat) : Int))] (wH e (adr false 0) (adr e.iz 1)))
 ([Value.agg ⟨[Value.int IntKind.i64 e.life, Value.int IntKind.i64 e.peer, Value.int IntKind.i64 e.phase, Value.int IntKind.i64 e.base, Value.slice (some ⟨0, 0, some 4⟩) e.outs.length e.outs.length, Value.int IntKind.i64 e.want, Value.slice (adr e.iz 1) e.ins.length e.ins.length]⟩] = [endV e] ∧ (some (.cells (outC e.outs) false) : Option IObj) = some (.cells (outC e.outs) false) ∧ (some (.cells (inC e.ins) false) : Option IObj) = some (.cells (inC e.ins) false) ∧ (Ide.bcase (decide (((pre.length : Nat) : Int) ≥ (flyS e)))
 (true = true ∧ (wH e (adr false 0) (adr e.iz 1)) = (wH e (adr false 0) (adr e.iz 1)) ∧ Qb .ret [(1, Value.pointer (some ⟨2, 0, none⟩)), (2, Value.bool false), (3, Value.int IntKind.i64 ((pre.length : Nat) : Int))] (wH e (adr false 0) (adr e.iz 1)))
 (true = true ∧ (wH e (adr false 0) (adr e.iz 1)) = (wH e (adr false 0) (adr e.iz 1)) ∧ LW none Pr 41 L58 Qb [(1, Value.pointer (some ⟨2, 0, none⟩)), (2, Value.bool false), (3, Value.int IntKind.i64 (IntKind.wrap .i64 (((pre.length : Nat) : Int) + 1)))] (wH e (adr false 0) (adr e.iz 1))))))
 (true = true ∧ (wH e (adr false 0) (adr e.iz 1)) = (wH e (adr false 0) (adr e.iz 1)) ∧ LW none Pr 41 L58 Qb [(1, Value.pointer (some ⟨2, 0, none⟩)), (2, Value.bool false), (3, Value.int IntKind.i64 (IntKind.wrap .i64 (((pre.length : Nat) : Int) + 1)))] (wH e (adr false 0) (adr e.iz 1)))))))))
 (true = true ∧ (wH e (adr false 0) (adr e.iz 1)) = (wH e (adr false 0) (adr e.iz 1)) ∧ Qb (.exit 0) [(1, Value.pointer (some ⟨2, 0, none⟩)), (2, Value.bool false), (3, Value.int IntKind.i64 ((pre.length : Nat) : Int))] (wH e (adr false 0) (adr e.iz 1))))) (by kernel_rfl) ?_
    have hl : pre.length = e.outs.length := by rw [hp]; simp
    refine bcI (fun h => ?_) (fun h => ?_)
    · exfalso; simp at h; omega
    · refine ⟨rfl, rfl, ?_⟩
      rw [hl]
      exact hx rfl
  | cons x post ih =>
    intro pre hp hx hr
    refine loop_sx (hs := [20, 29]) (rf := true) mixed (scFly_ok e) [1, 2, 3] (by kernel_rfl) (wH_in e false e.iz) ?_
    refine Eq.mp (α := (Ide.bcase (decide (((pre.length : Nat) : Int) < ((e.outs.length : Nat) : Int)))
 (0 ≤ ((pre.length : Nat) : Int) ∧ ((pre.length : Nat) : Int) < ((e.outs.length : Nat) : Int) ∧ (∃ s1 : ByteArray, (outC e.outs)[((0 + Int.toNat ((pre.length : Nat) : Int) * 2) + 0)]? = some (Value.string s1) ∧ (Ide.bcase (decide (((ByteArray.size s1 : Nat) : Int) > 20))
 (true = true ∧ (wH e (adr false 0) (adr e.iz 1)) = (wH e (adr false 0) (adr e.iz 1)) ∧ Qb .ret [(1, Value.pointer (some ⟨2, 0, none⟩)), (2, Value.bool false), (3, Value.int IntKind.i64 ((pre.length : Nat) : Int))] (wH e (adr false 0) (adr e.iz 1)))
 (0 ≤ ((pre.length : Nat) : Int) ∧ ((pre.length : Nat) : Int) < ((e.outs.length : Nat) : Int) ∧ (∃ b2 : Bool, (outC e.outs)[((0 + Int.toNat ((pre.length : Nat) : Int) * 2) + 1)]? = some (Value.bool b2) ∧ (Ide.bcase b2
 (Ide.bcase (decide (((pre.length : Nat) : Int) < 1))
 (true = true ∧ (wH e (adr false 0) (adr e.iz 1)) = (wH e (adr false 0) (adr e.iz 1)) ∧ Qb .ret [(1, Value.pointer (some ⟨2, 0, none⟩)), (2, Value.bool false), (3, Value.int IntKind.i64 ((pre.length : Nat) : Int))] (wH e (adr false 0) (adr e.iz 1)))
 ([Value.agg ⟨[Value.int IntKind.i64 e.life, Value.int IntKind.i64 e.peer, Value.int IntKind.i64 e.phase, Value.int IntKind.i64 e.base, Value.slice (some ⟨0, 0, some 4⟩) e.outs.length e.outs.length, Value.int IntKind.i64 e.want, Value.slice (adr e.iz 1) e.ins.length e.ins.length]⟩] = [endV e] ∧ (some (.cells (outC e.outs) false) : Option IObj) = some (.cells (outC e.outs) false) ∧ (some (.cells (inC e.ins) false) : Option IObj) = some (.cells (inC e.ins) false) ∧ (Ide.bcase (decide (((pre.length : Nat) : Int) ≥ (flyS e)))
 (true = true ∧ (wH e (adr false 0) (adr e.iz 1)) = (wH e (adr false 0) (adr e.iz 1)) ∧ Qb .ret [(1, Value.pointer (some ⟨2, 0, none⟩)), (2, Value.bool false), (3, Value.int IntKind.i64 ((pre.length : Nat) : Int))] (wH e (adr false 0) (adr e.iz 1)))
 (true = true ∧ (wH e (adr false 0) (adr e.iz 1)) = (wH e (adr false 0) (adr e.iz 1)) ∧ LW none Pr 41 L58 Qb [(1, Value.pointer (some ⟨2, 0, none⟩)), (2, Value.bool false), (3, Value.int IntKind.i64 (IntKind.wrap .i64 (((pre.length : Nat) : Int) + 1)))] (wH e (adr false 0) (adr e.iz 1))))))
 (true = true ∧ (wH e (adr false 0) (adr e.iz 1)) = (wH e (adr false 0) (adr e.iz 1)) ∧ LW none Pr 41 L58 Qb [(1, Value.pointer (some ⟨2, 0, none⟩)), (2, Value.bool false), (3, Value.int IntKind.i64 (IntKind.wrap .i64 (((pre.length : Nat) : Int) + 1)))] (wH e (adr false 0) (adr e.iz 1)))))))))
 (true = true ∧ (wH e (adr false 0) (adr e.iz 1)) = (wH e (adr false 0) (adr e.iz 1)) ∧ Qb (.exit 0) [(1, Value.pointer (some ⟨2, 0, none⟩)), (2, Value.bool false), (3, Value.int IntKind.i64 ((pre.length : Nat) : Int))] (wH e (adr false 0) (adr e.iz 1))))) (by kernel_rfl) ?_
    have hl : e.outs.length = pre.length + post.length + 1 := by rw [hp]; simp; omega
    have next : okO (flyS e) pre.length (x :: post) = okO (flyS e) (pre.length + 1) post → LW none Pr 41 L58 Qb [(1, p2), (2, .bool false), (3, .int .i64 (IntKind.wrap .i64 (((pre.length : Nat) : Int) + 1)))] (wH e (adr false 0) (adr e.iz 1)) := by
      intro hq
      rw [wrap_i64 (by omega) (by omega), show ((pre.length : Nat) : Int) + 1 = (((pre ++ [x]).length : Nat) : Int) by simp]
      have hlen : (pre ++ [x]).length = pre.length + 1 := by simp
      refine ih (pre ++ [x]) (by rw [hp]; simp) (fun h => hx ?_) (fun h i => hr ?_ i)
      · rw [hq, ← hlen]; exact h
      · rw [hq, ← hlen]; exact h
    refine bcI (fun h => ?_) (fun h => ?_)
    · refine ⟨by omega, by omega, x.1, ?_, bcI (fun h2 => ?_) (fun h2 => ?_)⟩
      · rw [hp, show 0 + Int.toNat ((pre.length : Nat) : Int) * 2 + 0 = 2 * pre.length by simp; omega]
        exact (outC_get pre x post).1
      · refine ⟨rfl, rfl, hr ?_ _⟩
        have : decide (x.1.size ≤ 20) = false := by simp at h2 ⊢; omega
        simp [okO, this]
      · have h3 : decide (x.1.size ≤ 20) = true := by simp at h2 ⊢; omega
        refine ⟨by omega, by omega, x.2, ?_, bcI (fun h4 => bcI (fun h5 => ?_) (fun h5 => ⟨?_, rfl, rfl, bcI (fun h6 => ?_) (fun h6 => ?_)⟩)) (fun h4 => ?_)⟩
        · rw [hp, show 0 + Int.toNat ((pre.length : Nat) : Int) * 2 + 1 = 2 * pre.length + 1 by simp; omega]
          exact (outC_get pre x post).2
        · refine ⟨rfl, rfl, hr ?_ _⟩
          have : decide (1 ≤ pre.length) = false := by simp only [decide_eq_true_eq, decide_eq_false_iff_not] at h5 ⊢; omega
          simp [okO, h4, this]
        · simp [endV, endW, hz, adr]
        · refine ⟨rfl, rfl, hr ?_ _⟩
          have : decide ((pre.length : Int) < flyS e) = false := by simp only [decide_eq_true_eq, decide_eq_false_iff_not, ge_iff_le, Int.not_lt] at h6 ⊢; exact h6
          simp [okO, h4, this]
        · refine ⟨rfl, rfl, next ?_⟩
          have h7 : decide (1 ≤ pre.length) = true := by simp only [decide_eq_true_eq, decide_eq_false_iff_not] at h5 ⊢; omega
          have h8 : decide ((pre.length : Int) < flyS e) = true := by simp only [decide_eq_true_eq, decide_eq_false_iff_not, ge_iff_le, Int.not_le] at h6 ⊢; exact h6
          simp [okO, h3, h7, h8]
        · refine ⟨rfl, rfl, next ?_⟩
          simp [okO, h3, h4]
    · exfalso; simp at h; omega

theorem outs_ok {e : SE} (w : Wf e) {H : IHeap} (h0 : H[0]? = some (.cells (outC e.outs) false)) (h1 : H[1]? = some (.cells (inC e.ins) false)) : ICalls Pr 58 [endV e] H (fun r H' => r = .ret (.bool (outsS e)) ∧ H' = H) := by
  refine lift1 rfl (icalls_sx (by kernel_rfl) ?_) h0 h1
  rw [sp58]
  refine iwl_segk (hs := []) (rf := true) mixed sc0_ok [1, 2, 3] A58 _ _ (by kernel_rfl) ?_
  refine Eq.mp (α := (Ide.bcase (decide (((e.outs.length : Nat) : Int) > 12))
 (IEnd.ret (Value.bool false) = .ret (.bool (outsS e)))
 (IWL none Pr 41 (.block 0 (.loop L58) :: C58) (bodyS Pr (ressOf Pr 58) fun r x => r = .ret (.bool (outsS e))) [(1, Value.pointer (some ⟨2, 0, none⟩)), (2, Value.bool false), (3, Value.int IntKind.i64 0)] (wH e (adr e.oz 0) (adr e.iz 1))))) (by kernel_rfl) ?_
  refine bcI (fun h => ?_) (fun h => iwl_loop ?_)
  · have : outsS e = false := by simp [outsS] at h ⊢; omega
    rw [this]
  · have h12 : decide (e.outs.length ≤ 12) = true := by simp at h ⊢; omega
    have fin : ∀ (a : Option Addr) (i : Int), okO (flyS e) 0 e.outs = true → IWL none Pr 41 C58 (bodyS Pr (ressOf Pr 58) fun r x => r = .ret (.bool (outsS e))) [(1, p2), (2, .bool false), (3, .int .i64 i)] (wH e a (adr e.iz 1)) := by
      intro a i hl2
      refine iwl_last (hs := []) (rf := true) mixed sc0_ok C58 (by kernel_rfl) ?_
      refine Eq.mp (α := IEnd.ret (.bool true) = IEnd.ret (.bool (outsS e))) (by kernel_rfl) ?_
      simp [outsS, hl2]
      simpa using h12
    cases hz : e.oz with
    | true =>
      have ho := w.oz hz
      exact outs_lz e _ ho (fin (adr true 0) 0 (by rw [ho]; rfl))
    | false =>
      refine outs_l e _ w.on hz e.outs [] rfl (fun h => fin (adr false 0) _ h) (fun h i => ?_)
      refine Eq.mp (α := IEnd.ret (.bool false) = IEnd.ret (.bool (outsS e))) (by kernel_rfl) ?_
      have h : okO (flyS e) 0 e.outs = false := h
      simp [outsS, h]

/-! ### ins -/
def okI (w : Int) : Int → List (Int × ByteArray) → Bool
  | _, [] => true
  | last, x :: l => decide (last < x.1) && decide (IntKind.wrap .i64 (x.1 - w) < 4) && decide (x.1 < 1000000000) && decide (x.2.size ≤ 20) && okI w x.1 l
def insS (e : SE) : Bool := okI e.want e.want e.ins

noncomputable def A59 : List Code := (sp 59).take 3
noncomputable def C59 : List Code := (sp 59).drop 4
noncomputable def L59 : Code := loopOf (sp 59) 3
theorem sp59 : Ide.spine (bodyOf Pr 59) [] = A59 ++ .block 0 (.loop L59) :: C59 := by kernel_rfl

theorem ins_lz (e : SE) (Qb : IExit → Env → IHeap → Prop) (last : Int) (ho : e.ins = []) (hx : Qb (.exit 0) [(1, p2), (2, .bool false), (3, .int .i64 last), (4, .int .i64 0)] (wH e (adr e.oz 0) (adr true 1))) :
    LW none Pr 45 L59 Qb [(1, p2), (2, .bool false), (3, .int .i64 last), (4, .int .i64 0)] (wH e (adr e.oz 0) (adr true 1)) := by
  refine loop_sx (hs := []) (rf := true) mixed sc0_ok [1, 2, 3, 4] (by kernel_rfl) (wH_in e e.oz true) ?_
  obtain ⟨life, peer, phase, base, want, oz, iz, outs, ins⟩ := e
  subst ho
  exact Eq.mp (α := true = true ∧ wH (SE.mk life peer phase base want oz iz outs []) (adr oz 0) (adr true 1) = wH (SE.mk life peer phase base want oz iz outs []) (adr oz 0) (adr true 1) ∧ Qb (.exit 0) [(1, p2), (2, .bool false), (3, .int .i64 last), (4, .int .i64 0)] (wH (SE.mk life peer phase base want oz iz outs []) (adr oz 0) (adr true 1))) (by kernel_rfl) ⟨rfl, rfl, hx⟩

theorem ins_l (e : SE) (Qb : IExit → Env → IHeap → Prop) (hn : e.ins.length ≤ 9223372036854775807) : ∀ (post pre : List (Int × ByteArray)) (last : Int), e.ins = pre ++ post →
    (okI e.want last post = true → ∀ last, Qb (.exit 0) [(1, p2), (2, .bool false), (3, .int .i64 last), (4, .int .i64 e.ins.length)] (wH e (adr e.oz 0) (adr false 1))) →
    (okI e.want last post = false → ∀ last i, Qb .ret [(1, p2), (2, .bool false), (3, .int .i64 last), (4, .int .i64 i)] (wH e (adr e.oz 0) (adr false 1))) →
    LW none Pr 45 L59 Qb [(1, p2), (2, .bool false), (3, .int .i64 last), (4, .int .i64 (pre.length : Nat))] (wH e (adr e.oz 0) (adr false 1)) := by
  intro post
  induction post with
  | nil =>
    intro pre last hp hx hr
    refine loop_sx (hs := [19]) (rf := true) mixed sc0_ok [1, 2, 3, 4] (by kernel_rfl) (wH_in e e.oz false) ?_
    refine Eq.mp (α := (Ide.bcase (decide (((pre.length : Nat) : Int) < ((e.ins.length : Nat) : Int)))
 (0 ≤ ((pre.length : Nat) : Int) ∧ ((pre.length : Nat) : Int) < ((e.ins.length : Nat) : Int) ∧ (∃ n1 : Int, (inC e.ins)[(0 + Int.toNat ((pre.length : Nat) : Int) * 2)]? = some (Value.int IntKind.i64 n1) ∧ (∃ s2 : ByteArray, (inC e.ins)[((0 + Int.toNat ((pre.length : Nat) : Int) * 2) + 1)]? = some (Value.string s2) ∧ (Ide.bcase (decide (n1 ≤ last))
 (true = true ∧ (wH e (adr e.oz 0) (adr false 1)) = (wH e (adr e.oz 0) (adr false 1)) ∧ Qb .ret [(1, Value.pointer (some ⟨2, 0, none⟩)), (2, Value.bool false), (3, Value.int IntKind.i64 last), (4, Value.int IntKind.i64 ((pre.length : Nat) : Int))] (wH e (adr e.oz 0) (adr false 1)))
 (Ide.bcase (decide ((IntKind.wrap .i64 (n1 - e.want)) ≥ 4))
 (true = true ∧ (wH e (adr e.oz 0) (adr false 1)) = (wH e (adr e.oz 0) (adr false 1)) ∧ Qb .ret [(1, Value.pointer (some ⟨2, 0, none⟩)), (2, Value.bool false), (3, Value.int IntKind.i64 last), (4, Value.int IntKind.i64 ((pre.length : Nat) : Int))] (wH e (adr e.oz 0) (adr false 1)))
 (Ide.bcase (decide (n1 ≥ 1000000000))
 (true = true ∧ (wH e (adr e.oz 0) (adr false 1)) = (wH e (adr e.oz 0) (adr false 1)) ∧ Qb .ret [(1, Value.pointer (some ⟨2, 0, none⟩)), (2, Value.bool false), (3, Value.int IntKind.i64 last), (4, Value.int IntKind.i64 ((pre.length : Nat) : Int))] (wH e (adr e.oz 0) (adr false 1)))
 (Ide.bcase (decide (((ByteArray.size s2 : Nat) : Int) > 20))
 (true = true ∧ (wH e (adr e.oz 0) (adr false 1)) = (wH e (adr e.oz 0) (adr false 1)) ∧ Qb .ret [(1, Value.pointer (some ⟨2, 0, none⟩)), (2, Value.bool false), (3, Value.int IntKind.i64 last), (4, Value.int IntKind.i64 ((pre.length : Nat) : Int))] (wH e (adr e.oz 0) (adr false 1)))
 (true = true ∧ (wH e (adr e.oz 0) (adr false 1)) = (wH e (adr e.oz 0) (adr false 1)) ∧ LW none Pr 45 L59 Qb [(1, Value.pointer (some ⟨2, 0, none⟩)), (2, Value.bool false), (3, Value.int IntKind.i64 n1), (4, Value.int IntKind.i64 (IntKind.wrap .i64 (((pre.length : Nat) : Int) + 1)))] (wH e (adr e.oz 0) (adr false 1))))))))))
 (true = true ∧ (wH e (adr e.oz 0) (adr false 1)) = (wH e (adr e.oz 0) (adr false 1)) ∧ Qb (.exit 0) [(1, Value.pointer (some ⟨2, 0, none⟩)), (2, Value.bool false), (3, Value.int IntKind.i64 last), (4, Value.int IntKind.i64 ((pre.length : Nat) : Int))] (wH e (adr e.oz 0) (adr false 1))))) (by kernel_rfl) ?_
    have hl : pre.length = e.ins.length := by rw [hp]; simp
    refine bcI (fun h => ?_) (fun h => ?_)
    · exfalso; simp at h; omega
    · refine ⟨rfl, rfl, ?_⟩
      rw [hl]
      exact hx rfl _
  | cons x post ih =>
    intro pre last hp hx hr
    refine loop_sx (hs := [19]) (rf := true) mixed sc0_ok [1, 2, 3, 4] (by kernel_rfl) (wH_in e e.oz false) ?_
    refine Eq.mp (α := (Ide.bcase (decide (((pre.length : Nat) : Int) < ((e.ins.length : Nat) : Int)))
 (0 ≤ ((pre.length : Nat) : Int) ∧ ((pre.length : Nat) : Int) < ((e.ins.length : Nat) : Int) ∧ (∃ n1 : Int, (inC e.ins)[(0 + Int.toNat ((pre.length : Nat) : Int) * 2)]? = some (Value.int IntKind.i64 n1) ∧ (∃ s2 : ByteArray, (inC e.ins)[((0 + Int.toNat ((pre.length : Nat) : Int) * 2) + 1)]? = some (Value.string s2) ∧ (Ide.bcase (decide (n1 ≤ last))
 (true = true ∧ (wH e (adr e.oz 0) (adr false 1)) = (wH e (adr e.oz 0) (adr false 1)) ∧ Qb .ret [(1, Value.pointer (some ⟨2, 0, none⟩)), (2, Value.bool false), (3, Value.int IntKind.i64 last), (4, Value.int IntKind.i64 ((pre.length : Nat) : Int))] (wH e (adr e.oz 0) (adr false 1)))
 (Ide.bcase (decide ((IntKind.wrap .i64 (n1 - e.want)) ≥ 4))
 (true = true ∧ (wH e (adr e.oz 0) (adr false 1)) = (wH e (adr e.oz 0) (adr false 1)) ∧ Qb .ret [(1, Value.pointer (some ⟨2, 0, none⟩)), (2, Value.bool false), (3, Value.int IntKind.i64 last), (4, Value.int IntKind.i64 ((pre.length : Nat) : Int))] (wH e (adr e.oz 0) (adr false 1)))
 (Ide.bcase (decide (n1 ≥ 1000000000))
 (true = true ∧ (wH e (adr e.oz 0) (adr false 1)) = (wH e (adr e.oz 0) (adr false 1)) ∧ Qb .ret [(1, Value.pointer (some ⟨2, 0, none⟩)), (2, Value.bool false), (3, Value.int IntKind.i64 last), (4, Value.int IntKind.i64 ((pre.length : Nat) : Int))] (wH e (adr e.oz 0) (adr false 1)))
 (Ide.bcase (decide (((ByteArray.size s2 : Nat) : Int) > 20))
 (true = true ∧ (wH e (adr e.oz 0) (adr false 1)) = (wH e (adr e.oz 0) (adr false 1)) ∧ Qb .ret [(1, Value.pointer (some ⟨2, 0, none⟩)), (2, Value.bool false), (3, Value.int IntKind.i64 last), (4, Value.int IntKind.i64 ((pre.length : Nat) : Int))] (wH e (adr e.oz 0) (adr false 1)))
 (true = true ∧ (wH e (adr e.oz 0) (adr false 1)) = (wH e (adr e.oz 0) (adr false 1)) ∧ LW none Pr 45 L59 Qb [(1, Value.pointer (some ⟨2, 0, none⟩)), (2, Value.bool false), (3, Value.int IntKind.i64 n1), (4, Value.int IntKind.i64 (IntKind.wrap .i64 (((pre.length : Nat) : Int) + 1)))] (wH e (adr e.oz 0) (adr false 1))))))))))
 (true = true ∧ (wH e (adr e.oz 0) (adr false 1)) = (wH e (adr e.oz 0) (adr false 1)) ∧ Qb (.exit 0) [(1, Value.pointer (some ⟨2, 0, none⟩)), (2, Value.bool false), (3, Value.int IntKind.i64 last), (4, Value.int IntKind.i64 ((pre.length : Nat) : Int))] (wH e (adr e.oz 0) (adr false 1))))) (by kernel_rfl) ?_
    have hl : e.ins.length = pre.length + post.length + 1 := by rw [hp]; simp; omega
    refine bcI (fun h => ?_) (fun h => ?_)
    · refine ⟨by omega, by omega, x.1, ?_, x.2, ?_, bcI (fun h1 => ?_) (fun h1 => bcI (fun h2 => ?_) (fun h2 => bcI (fun h3 => ?_) (fun h3 => bcI (fun h4 => ?_) (fun h4 => ?_))))⟩
      · rw [hp, show 0 + Int.toNat ((pre.length : Nat) : Int) * 2 = 2 * pre.length by simp; omega]
        exact (inC_get pre x post).1
      · rw [hp, show 0 + Int.toNat ((pre.length : Nat) : Int) * 2 + 1 = 2 * pre.length + 1 by simp; omega]
        exact (inC_get pre x post).2
      · refine ⟨rfl, rfl, hr ?_ _ _⟩
        have : decide (last < x.1) = false := by simp at h1 ⊢; omega
        simp [okI, this]
      · refine ⟨rfl, rfl, hr ?_ _ _⟩
        have : decide (IntKind.wrap .i64 (x.1 - e.want) < 4) = false := by simp at h2 ⊢; omega
        simp [okI, this]
      · refine ⟨rfl, rfl, hr ?_ _ _⟩
        have : decide (x.1 < 1000000000) = false := by simp at h3 ⊢; omega
        simp [okI, this]
      · refine ⟨rfl, rfl, hr ?_ _ _⟩
        have : decide (x.2.size ≤ 20) = false := by simp at h4 ⊢; omega
        simp [okI, this]
      · refine ⟨rfl, rfl, ?_⟩
        have g1 : decide (last < x.1) = true := by simp at h1 ⊢; omega
        have g2 : decide (IntKind.wrap .i64 (x.1 - e.want) < 4) = true := by simp at h2 ⊢; omega
        have g3 : decide (x.1 < 1000000000) = true := by simp at h3 ⊢; omega
        have g4 : decide (x.2.size ≤ 20) = true := by simp at h4 ⊢; omega
        have hq : okI e.want last (x :: post) = okI e.want x.1 post := by simp only [okI, g1, g2, g3, g4, Bool.true_and]
        rw [wrap_i64 (by omega) (by omega), show ((pre.length : Nat) : Int) + 1 = (((pre ++ [x]).length : Nat) : Int) by simp]
        exact ih (pre ++ [x]) x.1 (by rw [hp]; simp) (fun h => hx (hq.trans h)) (fun h => hr (hq.trans h))
    · exfalso; simp at h; omega

theorem ins_ok {e : SE} (w : Wf e) {H : IHeap} (h0 : H[0]? = some (.cells (outC e.outs) false)) (h1 : H[1]? = some (.cells (inC e.ins) false)) : ICalls Pr 59 [endV e] H (fun r H' => r = .ret (.bool (insS e)) ∧ H' = H) := by
  refine lift1 rfl (icalls_sx (by kernel_rfl) ?_) h0 h1
  rw [sp59]
  refine iwl_segk (hs := []) (rf := true) mixed sc0_ok [1, 2, 3, 4] A59 _ _ (by kernel_rfl) ?_
  refine Eq.mp (α := (IWL none Pr 45 (.block 0 (.loop L59) :: C59) (bodyS Pr (ressOf Pr 59) fun r x => r = .ret (.bool (insS e))) [(1, Value.pointer (some ⟨2, 0, none⟩)), (2, Value.bool false), (3, Value.int IntKind.i64 e.want), (4, Value.int IntKind.i64 0)] (wH e (adr e.oz 0) (adr e.iz 1)))) (by kernel_rfl) ?_
  refine iwl_loop ?_
  have fin : ∀ (a : Option Addr) (last i : Int), insS e = true → IWL none Pr 45 C59 (bodyS Pr (ressOf Pr 59) fun r x => r = .ret (.bool (insS e))) [(1, p2), (2, .bool false), (3, .int .i64 last), (4, .int .i64 i)] (wH e (adr e.oz 0) a) := by
    intro a last i hl2
    refine iwl_last (hs := []) (rf := true) mixed sc0_ok C59 (by kernel_rfl) ?_
    refine Eq.mp (α := IEnd.ret (.bool true) = IEnd.ret (.bool (insS e))) (by kernel_rfl) ?_
    rw [hl2]
  cases hz : e.iz with
  | true =>
    have ho := w.iz hz
    exact ins_lz e _ _ ho (fin (adr true 1) _ 0 (by unfold insS; rw [ho]; rfl))
  | false =>
    refine ins_l e _ w.inn e.ins [] e.want rfl (fun h last => fin (adr false 1) _ _ h) (fun h last i => ?_)
    refine Eq.mp (α := IEnd.ret (.bool false) = IEnd.ret (.bool (insS e))) (by kernel_rfl) ?_
    have h : insS e = false := h
    rw [h]

end Go.Proofs.Ytoikiogaiikheaa.Sess

/- Good and fine. -/
set_option linter.unusedVariables false
set_option linter.unusedSimpArgs false
set_option maxRecDepth 10000
namespace Go.Proofs.Ytoikiogaiikheaa.Sess
open Go Go.RowKit Ide Go.Proofs

/-! ### Good -/
def goodS (e : SE) : Bool :=
  inS e.life 1 1000000000 && inS e.peer 0 1000000000 && inS e.base 0 1000000000 && inS e.want 0 1000000000 && outsS e && !(decide (((e.outs.length : Nat) : Int) > IntKind.wrap .i64 (1000000000 - e.base))) &&
  (bif e.phase == 3 then decide (e.peer > 0) && insS e
   else !(e.base != 0) && !(e.want != 0) && !(decide (((e.ins.length : Nat) : Int) > 0)) && ((e.phase == 1 && e.peer == 0) || (e.phase == 2 && decide (e.peer > 0))))

def scGood (e : SE) : SCall := fun g args H K =>
  bif Nat.beq g 35 then (match args with | [.int .i64 a, .int .i64 b, .int .i64 c] => K (.bool (inS a b c)) H | _ => False)
  else bif Nat.beq g 58 then args = [endV e] ∧ H[0]? = some (.cells (outC e.outs) false) ∧ H[1]? = some (.cells (inC e.ins) false) ∧ K (.bool (outsS e)) H
  else bif Nat.beq g 59 then args = [endV e] ∧ H[0]? = some (.cells (outC e.outs) false) ∧ H[1]? = some (.cells (inC e.ins) false) ∧ K (.bool (insS e)) H
  else False
theorem bif2 {b : Bool} {X Y : Prop} (h : bif b then X else Y) : (b = true ∧ X) ∨ (b = false ∧ Y) := by cases b with | true => exact .inl ⟨rfl, h⟩ | false => exact .inr ⟨rfl, h⟩
theorem scGood_ok {e : SE} (w : Wf e) : SOk Pr (scGood e) := by
  intro g args H K h
  unfold scGood at h
  rcases bif2 h with ⟨hg, h⟩ | ⟨_, h⟩
  · have := Nat.eq_of_beq_eq_true hg
    subst this
    split at h
    · exact (in_ok _ _ _ H).mono fun r H' hr => ⟨_, hr.1, by rw [hr.2]; exact h⟩
    · exact h.elim
  · rcases bif2 h with ⟨hg, rfl, h0, h1, hk⟩ | ⟨_, h⟩
    · have := Nat.eq_of_beq_eq_true hg
      subst this
      exact (outs_ok w h0 h1).mono fun r H' hr => ⟨_, hr.1, by rw [hr.2]; exact hk⟩
    · obtain ⟨hg, rfl, h0, h1, hk⟩ := bifF h
      have := Nat.eq_of_beq_eq_true hg
      subst this
      exact (ins_ok w h0 h1).mono fun r H' hr => ⟨_, hr.1, by rw [hr.2]; exact hk⟩

theorem good_ok {e : SE} (w : Wf e) {H : IHeap} (h0 : H[0]? = some (.cells (outC e.outs) false)) (h1 : H[1]? = some (.cells (inC e.ins) false)) : ICalls Pr 22 [endV e] H (fun r H' => r = .ret (.bool (goodS e)) ∧ H' = H) := by
  refine lift1 rfl (icalls_sx (by kernel_rfl) (iwl_last (hs := []) (rf := true) mixed (scGood_ok w) _ (by kernel_rfl) ?_)) h0 h1
  refine Eq.mp (α := (Ide.bcase (!(inS e.life 1 1000000000))
 (IEnd.ret (Value.bool false) = IEnd.ret (.bool (goodS e)))
 (Ide.bcase (!(inS e.peer 0 1000000000))
 (IEnd.ret (Value.bool false) = IEnd.ret (.bool (goodS e)))
 (Ide.bcase (!(inS e.base 0 1000000000))
 (IEnd.ret (Value.bool false) = IEnd.ret (.bool (goodS e)))
 (Ide.bcase (!(inS e.want 0 1000000000))
 (IEnd.ret (Value.bool false) = IEnd.ret (.bool (goodS e)))
 ([endV e] = [endV e] ∧ (some (.cells (outC e.outs) false) : Option IObj) = some (.cells (outC e.outs) false) ∧ (some (.cells (inC e.ins) false) : Option IObj) = some (.cells (inC e.ins) false) ∧ (Ide.bcase (!(outsS e))
 (IEnd.ret (Value.bool false) = IEnd.ret (.bool (goodS e)))
 (Ide.bcase (decide (((e.outs.length : Nat) : Int) > (IntKind.wrap .i64 (1000000000 - e.base))))
 (IEnd.ret (Value.bool false) = IEnd.ret (.bool (goodS e)))
 (Ide.bcase (e.phase == 3)
 (Ide.bcase (decide (e.peer > 0))
 ([endV e] = [endV e] ∧ (some (.cells (outC e.outs) false) : Option IObj) = some (.cells (outC e.outs) false) ∧ (some (.cells (inC e.ins) false) : Option IObj) = some (.cells (inC e.ins) false) ∧ (IEnd.ret (Value.bool (insS e)) = IEnd.ret (.bool (goodS e))))
 (IEnd.ret (Value.bool false) = IEnd.ret (.bool (goodS e))))
 (Ide.bcase (e.base != 0)
 (IEnd.ret (Value.bool false) = IEnd.ret (.bool (goodS e)))
 (Ide.bcase (e.want != 0)
 (IEnd.ret (Value.bool false) = IEnd.ret (.bool (goodS e)))
 (Ide.bcase (decide (((e.ins.length : Nat) : Int) > 0))
 (IEnd.ret (Value.bool false) = IEnd.ret (.bool (goodS e)))
 (Ide.bcase (e.phase == 1)
 (Ide.bcase (e.peer == 0)
 (IEnd.ret (Value.bool true) = IEnd.ret (.bool (goodS e)))
 (Ide.bcase (e.phase == 2)
 (IEnd.ret (Value.bool (decide (e.peer > 0))) = IEnd.ret (.bool (goodS e)))
 (IEnd.ret (Value.bool false) = IEnd.ret (.bool (goodS e)))))
 (Ide.bcase (e.phase == 2)
 (IEnd.ret (Value.bool (decide (e.peer > 0))) = IEnd.ret (.bool (goodS e)))
 (IEnd.ret (Value.bool false) = IEnd.ret (.bool (goodS e))))))))))))))))) (by kernel_rfl) ?_
  unfold goodS
  repeat' first
    | refine bcI (fun h => ?_) (fun h => ?_)
    | refine And.intro rfl (And.intro rfl (And.intro rfl ?_))
  all_goals first | (congr 2; simp_all; done) | (congr 2; simp_all; intro h'; omega)

/-! ### fine -/
def fI (w : Int) : Int → List (Int × ByteArray) → Bool
  | _, [] => true
  | least, x :: l => !(decide (x.1 < least)) && !(decide (x.1 ≥ (if 1000000000 < IntKind.wrap .i64 (w + 4) then 1000000000 else IntKind.wrap .i64 (w + 4)))) && !(decide (((x.2.size : Nat) : Int) > 20)) && fI w (IntKind.wrap .i64 (x.1 + 1)) l
def fO (op : Bool) : Nat → List (ByteArray × Bool) → Bool
  | _, [] => true
  | i, x :: l => !(decide (((x.1.size : Nat) : Int) > 20)) && (!x.2 || (op && !(((i : Nat) : Int) == 0) && !(decide (((i : Nat) : Int) ≥ 4)))) && fO op (i + 1) l
def fine1S (e : SE) : Bool :=
  !(decide (e.life < 1)) && !(decide (e.life > 1000000000)) && !(decide (e.peer < 0)) && !(decide (e.peer > 1000000000)) && ((e.phase == 1) == (e.peer == 0)) && !(decide (e.phase < 1)) && !(decide (e.phase > 3)) &&
  !(decide (((e.outs.length : Nat) : Int) > 12)) && !(decide (e.base < 0)) && !(decide (e.want < 0)) && !(decide (e.want > 1000000000)) && !(decide (e.base > IntKind.wrap .i64 (1000000000 - ((e.outs.length : Nat) : Int))))
def fine2S (e : SE) : Bool := (e.phase == 3) || (!(decide (e.base > 0)) && !(decide (e.want > 0)) && !(decide (((e.ins.length : Nat) : Int) > 0)))
def fineS (e : SE) : Bool := fine1S e && fI e.want (IntKind.wrap .i64 (e.want + 1)) e.ins && fine2S e && fO (e.phase == 3) 0 e.outs

noncomputable def A36 : List Code := (sp 36).take 7
noncomputable def B36 : List Code := ((sp 36).drop 8).take 4
noncomputable def C36 : List Code := (sp 36).drop 13
noncomputable def L36a : Code := loopOf (sp 36) 7
noncomputable def L36b : Code := loopOf (sp 36) 12
theorem sp36 : Ide.spine (bodyOf Pr 36) [] = A36 ++ .block 0 (.loop L36a) :: (B36 ++ .block 2 (.loop L36b) :: C36) := by kernel_rfl

def env36a (e : SE) (a : Option Addr) (least i : Int) : Env := [(1, p2), (2, .bool false), (3, .int .i64 least), (78, .slice a e.ins.length e.ins.length), (79, .int .i64 ((e.ins.length : Nat) : Int)), (80, .int .i64 i)]
def env36b (e : SE) (a : Option Addr) (op : Bool) (i : Int) : Env := [(1, p2), (2, .bool false), (6, .bool op), (129, .slice a e.outs.length e.outs.length), (130, .int .i64 ((e.outs.length : Nat) : Int)), (131, .int .i64 i)]

theorem fine_l1z (e : SE) (Qb : IExit → Env → IHeap → Prop) (least : Int) (ho : e.ins = []) (hx : Qb (.exit 0) (env36a e (adr true 1) least 0) (wH e (adr e.oz 0) (adr true 1))) :
    LW none Pr 157 L36a Qb (env36a e (adr true 1) least 0) (wH e (adr e.oz 0) (adr true 1)) := by
  refine loop_sx (hs := []) (rf := true) mixed sc0_ok [1, 2, 3, 78, 79, 80] (by kernel_rfl) (wH_in e e.oz true) ?_
  obtain ⟨life, peer, phase, base, want, oz, iz, outs, ins⟩ := e
  subst ho
  exact Eq.mp (α := true = true ∧ wH (SE.mk life peer phase base want oz iz outs []) (adr oz 0) (adr true 1) = wH (SE.mk life peer phase base want oz iz outs []) (adr oz 0) (adr true 1) ∧ Qb (.exit 0) (env36a (SE.mk life peer phase base want oz iz outs []) (adr true 1) least 0) (wH (SE.mk life peer phase base want oz iz outs []) (adr oz 0) (adr true 1))) (by kernel_rfl) ⟨rfl, rfl, hx⟩

theorem fine_l1 (e : SE) (Qb : IExit → Env → IHeap → Prop) (hn : e.ins.length ≤ 9223372036854775807) : ∀ (post pre : List (Int × ByteArray)) (least : Int), e.ins = pre ++ post →
    (fI e.want least post = true → ∀ least, Qb (.exit 0) (env36a e (adr false 1) least e.ins.length) (wH e (adr e.oz 0) (adr false 1))) →
    (fI e.want least post = false → ∀ least i, Qb .ret (env36a e (adr false 1) least i) (wH e (adr e.oz 0) (adr false 1))) →
    LW none Pr 157 L36a Qb (env36a e (adr false 1) least (pre.length : Nat)) (wH e (adr e.oz 0) (adr false 1)) := by
  intro post
  induction post with
  | nil =>
    intro pre least hp hx hr
    refine loop_sx (hs := [83]) (rf := true) mixed sc0_ok [1, 2, 3, 78, 79, 80] (by kernel_rfl) (wH_in e e.oz false) ?_
    refine Eq.mp (α := (Ide.bcase (decide (((pre.length : Nat) : Int) < ((e.ins.length : Nat) : Int)))
 (0 ≤ ((pre.length : Nat) : Int) ∧ ((pre.length : Nat) : Int) < ((e.ins.length : Nat) : Int) ∧ (∃ n1 : Int, (inC e.ins)[(0 + Int.toNat ((pre.length : Nat) : Int) * 2)]? = some (Value.int IntKind.i64 n1) ∧ (∃ s2 : ByteArray, (inC e.ins)[((0 + Int.toNat ((pre.length : Nat) : Int) * 2) + 1)]? = some (Value.string s2) ∧ (Ide.bcase (decide (n1 < least))
 (true = true ∧ (wH e (adr e.oz 0) (adr false 1)) = (wH e (adr e.oz 0) (adr false 1)) ∧ Qb .ret [(1, Value.pointer (some ⟨2, 0, none⟩)), (2, Value.bool false), (3, Value.int IntKind.i64 least), (78, Value.slice (some ⟨1, 0, some 4⟩) e.ins.length e.ins.length), (79, Value.int IntKind.i64 ((e.ins.length : Nat) : Int)), (80, Value.int IntKind.i64 ((pre.length : Nat) : Int))] (wH e (adr e.oz 0) (adr false 1)))
 (Ide.bcase (decide (n1 ≥ (if 1000000000 < (IntKind.wrap .i64 (e.want + 4)) then 1000000000 else (IntKind.wrap .i64 (e.want + 4)))))
 (true = true ∧ (wH e (adr e.oz 0) (adr false 1)) = (wH e (adr e.oz 0) (adr false 1)) ∧ Qb .ret [(1, Value.pointer (some ⟨2, 0, none⟩)), (2, Value.bool false), (3, Value.int IntKind.i64 least), (78, Value.slice (some ⟨1, 0, some 4⟩) e.ins.length e.ins.length), (79, Value.int IntKind.i64 ((e.ins.length : Nat) : Int)), (80, Value.int IntKind.i64 ((pre.length : Nat) : Int))] (wH e (adr e.oz 0) (adr false 1)))
 (Ide.bcase (decide (((ByteArray.size s2 : Nat) : Int) > 20))
 (true = true ∧ (wH e (adr e.oz 0) (adr false 1)) = (wH e (adr e.oz 0) (adr false 1)) ∧ Qb .ret [(1, Value.pointer (some ⟨2, 0, none⟩)), (2, Value.bool false), (3, Value.int IntKind.i64 least), (78, Value.slice (some ⟨1, 0, some 4⟩) e.ins.length e.ins.length), (79, Value.int IntKind.i64 ((e.ins.length : Nat) : Int)), (80, Value.int IntKind.i64 ((pre.length : Nat) : Int))] (wH e (adr e.oz 0) (adr false 1)))
 (true = true ∧ (wH e (adr e.oz 0) (adr false 1)) = (wH e (adr e.oz 0) (adr false 1)) ∧ LW none Pr 157 L36a Qb [(1, Value.pointer (some ⟨2, 0, none⟩)), (2, Value.bool false), (3, Value.int IntKind.i64 (IntKind.wrap .i64 (n1 + 1))), (78, Value.slice (some ⟨1, 0, some 4⟩) e.ins.length e.ins.length), (79, Value.int IntKind.i64 ((e.ins.length : Nat) : Int)), (80, Value.int IntKind.i64 (IntKind.wrap .i64 (((pre.length : Nat) : Int) + 1)))] (wH e (adr e.oz 0) (adr false 1)))))))))
 (true = true ∧ (wH e (adr e.oz 0) (adr false 1)) = (wH e (adr e.oz 0) (adr false 1)) ∧ Qb (.exit 0) [(1, Value.pointer (some ⟨2, 0, none⟩)), (2, Value.bool false), (3, Value.int IntKind.i64 least), (78, Value.slice (some ⟨1, 0, some 4⟩) e.ins.length e.ins.length), (79, Value.int IntKind.i64 ((e.ins.length : Nat) : Int)), (80, Value.int IntKind.i64 ((pre.length : Nat) : Int))] (wH e (adr e.oz 0) (adr false 1))))) (by kernel_rfl) ?_
    have hl : pre.length = e.ins.length := by rw [hp]; simp
    refine bcI (fun h => ?_) (fun h => ?_)
    · exfalso; simp at h; omega
    · refine ⟨rfl, rfl, ?_⟩
      rw [hl]
      exact hx rfl _
  | cons x post ih =>
    intro pre least hp hx hr
    refine loop_sx (hs := [83]) (rf := true) mixed sc0_ok [1, 2, 3, 78, 79, 80] (by kernel_rfl) (wH_in e e.oz false) ?_
    refine Eq.mp (α := (Ide.bcase (decide (((pre.length : Nat) : Int) < ((e.ins.length : Nat) : Int)))
 (0 ≤ ((pre.length : Nat) : Int) ∧ ((pre.length : Nat) : Int) < ((e.ins.length : Nat) : Int) ∧ (∃ n1 : Int, (inC e.ins)[(0 + Int.toNat ((pre.length : Nat) : Int) * 2)]? = some (Value.int IntKind.i64 n1) ∧ (∃ s2 : ByteArray, (inC e.ins)[((0 + Int.toNat ((pre.length : Nat) : Int) * 2) + 1)]? = some (Value.string s2) ∧ (Ide.bcase (decide (n1 < least))
 (true = true ∧ (wH e (adr e.oz 0) (adr false 1)) = (wH e (adr e.oz 0) (adr false 1)) ∧ Qb .ret [(1, Value.pointer (some ⟨2, 0, none⟩)), (2, Value.bool false), (3, Value.int IntKind.i64 least), (78, Value.slice (some ⟨1, 0, some 4⟩) e.ins.length e.ins.length), (79, Value.int IntKind.i64 ((e.ins.length : Nat) : Int)), (80, Value.int IntKind.i64 ((pre.length : Nat) : Int))] (wH e (adr e.oz 0) (adr false 1)))
 (Ide.bcase (decide (n1 ≥ (if 1000000000 < (IntKind.wrap .i64 (e.want + 4)) then 1000000000 else (IntKind.wrap .i64 (e.want + 4)))))
 (true = true ∧ (wH e (adr e.oz 0) (adr false 1)) = (wH e (adr e.oz 0) (adr false 1)) ∧ Qb .ret [(1, Value.pointer (some ⟨2, 0, none⟩)), (2, Value.bool false), (3, Value.int IntKind.i64 least), (78, Value.slice (some ⟨1, 0, some 4⟩) e.ins.length e.ins.length), (79, Value.int IntKind.i64 ((e.ins.length : Nat) : Int)), (80, Value.int IntKind.i64 ((pre.length : Nat) : Int))] (wH e (adr e.oz 0) (adr false 1)))
 (Ide.bcase (decide (((ByteArray.size s2 : Nat) : Int) > 20))
 (true = true ∧ (wH e (adr e.oz 0) (adr false 1)) = (wH e (adr e.oz 0) (adr false 1)) ∧ Qb .ret [(1, Value.pointer (some ⟨2, 0, none⟩)), (2, Value.bool false), (3, Value.int IntKind.i64 least), (78, Value.slice (some ⟨1, 0, some 4⟩) e.ins.length e.ins.length), (79, Value.int IntKind.i64 ((e.ins.length : Nat) : Int)), (80, Value.int IntKind.i64 ((pre.length : Nat) : Int))] (wH e (adr e.oz 0) (adr false 1)))
 (true = true ∧ (wH e (adr e.oz 0) (adr false 1)) = (wH e (adr e.oz 0) (adr false 1)) ∧ LW none Pr 157 L36a Qb [(1, Value.pointer (some ⟨2, 0, none⟩)), (2, Value.bool false), (3, Value.int IntKind.i64 (IntKind.wrap .i64 (n1 + 1))), (78, Value.slice (some ⟨1, 0, some 4⟩) e.ins.length e.ins.length), (79, Value.int IntKind.i64 ((e.ins.length : Nat) : Int)), (80, Value.int IntKind.i64 (IntKind.wrap .i64 (((pre.length : Nat) : Int) + 1)))] (wH e (adr e.oz 0) (adr false 1)))))))))
 (true = true ∧ (wH e (adr e.oz 0) (adr false 1)) = (wH e (adr e.oz 0) (adr false 1)) ∧ Qb (.exit 0) [(1, Value.pointer (some ⟨2, 0, none⟩)), (2, Value.bool false), (3, Value.int IntKind.i64 least), (78, Value.slice (some ⟨1, 0, some 4⟩) e.ins.length e.ins.length), (79, Value.int IntKind.i64 ((e.ins.length : Nat) : Int)), (80, Value.int IntKind.i64 ((pre.length : Nat) : Int))] (wH e (adr e.oz 0) (adr false 1))))) (by kernel_rfl) ?_
    have hl : e.ins.length = pre.length + post.length + 1 := by rw [hp]; simp; omega
    refine bcI (fun h => ?_) (fun h => ?_)
    · refine ⟨by omega, by omega, x.1, ?_, x.2, ?_, bcI (fun h1 => ?_) (fun h1 => bcI (fun h2 => ?_) (fun h2 => bcI (fun h3 => ?_) (fun h3 => ?_)))⟩
      · rw [hp, show 0 + Int.toNat ((pre.length : Nat) : Int) * 2 = 2 * pre.length by simp; omega]
        exact (inC_get pre x post).1
      · rw [hp, show 0 + Int.toNat ((pre.length : Nat) : Int) * 2 + 1 = 2 * pre.length + 1 by simp; omega]
        exact (inC_get pre x post).2
      · exact ⟨rfl, rfl, hr (by simp only [fI, h1]; simp) _ _⟩
      · exact ⟨rfl, rfl, hr (by simp only [fI, h1, h2]; simp) _ _⟩
      · exact ⟨rfl, rfl, hr (by simp only [fI, h1, h2, h3]; simp) _ _⟩
      · refine ⟨rfl, rfl, ?_⟩
        have hq : fI e.want least (x :: post) = fI e.want (IntKind.wrap .i64 (x.1 + 1)) post := by simp only [fI, h1, h2, h3]; simp
        rw [wrap_i64 (x := ((pre.length : Nat) : Int) + 1) (by omega) (by omega), show ((pre.length : Nat) : Int) + 1 = (((pre ++ [x]).length : Nat) : Int) by simp]
        exact ih (pre ++ [x]) _ (by rw [hp]; simp) (fun h => hx (hq.trans h)) (fun h => hr (hq.trans h))
    · exfalso; simp at h; omega

theorem fine_l2z (e : SE) (Qb : IExit → Env → IHeap → Prop) (op : Bool) (ho : e.outs = []) (hx : Qb (.exit 2) (env36b e (adr true 0) op 0) (wH e (adr true 0) (adr e.iz 1))) :
    LW none Pr 157 L36b Qb (env36b e (adr true 0) op 0) (wH e (adr true 0) (adr e.iz 1)) := by
  refine loop_sx (hs := []) (rf := true) mixed sc0_ok [1, 2, 6, 129, 130, 131] (by kernel_rfl) (wH_in e true e.iz) ?_
  obtain ⟨life, peer, phase, base, want, oz, iz, outs, ins⟩ := e
  subst ho
  exact Eq.mp (α := true = true ∧ wH (SE.mk life peer phase base want oz iz [] ins) (adr true 0) (adr iz 1) = wH (SE.mk life peer phase base want oz iz [] ins) (adr true 0) (adr iz 1) ∧ Qb (.exit 2) (env36b (SE.mk life peer phase base want oz iz [] ins) (adr true 0) op 0) (wH (SE.mk life peer phase base want oz iz [] ins) (adr true 0) (adr iz 1))) (by kernel_rfl) ⟨rfl, rfl, hx⟩

theorem fine_l2 (e : SE) (Qb : IExit → Env → IHeap → Prop) (op : Bool) (hn : e.outs.length ≤ 9223372036854775807) : ∀ (post pre : List (ByteArray × Bool)), e.outs = pre ++ post →
    (fO op pre.length post = true → Qb (.exit 2) (env36b e (adr false 0) op e.outs.length) (wH e (adr false 0) (adr e.iz 1))) →
    (fO op pre.length post = false → ∀ i, Qb .ret (env36b e (adr false 0) op i) (wH e (adr false 0) (adr e.iz 1))) →
    LW none Pr 157 L36b Qb (env36b e (adr false 0) op (pre.length : Nat)) (wH e (adr false 0) (adr e.iz 1)) := by
  intro post
  induction post with
  | nil =>
    intro pre hp hx hr
    refine loop_sx (hs := [135]) (rf := true) mixed sc0_ok [1, 2, 6, 129, 130, 131] (by kernel_rfl) (wH_in e false e.iz) ?_
    refine Eq.mp (α := (Ide.bcase (decide (((pre.length : Nat) : Int) < ((e.outs.length : Nat) : Int)))
 (0 ≤ ((pre.length : Nat) : Int) ∧ ((pre.length : Nat) : Int) < ((e.outs.length : Nat) : Int) ∧ (∃ s3 : ByteArray, (outC e.outs)[(0 + Int.toNat ((pre.length : Nat) : Int) * 2)]? = some (Value.string s3) ∧ (∃ b4 : Bool, (outC e.outs)[((0 + Int.toNat ((pre.length : Nat) : Int) * 2) + 1)]? = some (Value.bool b4) ∧ (Ide.bcase (decide (((ByteArray.size s3 : Nat) : Int) > 20))
 (true = true ∧ (wH e (adr false 0) (adr e.iz 1)) = (wH e (adr false 0) (adr e.iz 1)) ∧ Qb .ret [(1, Value.pointer (some ⟨2, 0, none⟩)), (2, Value.bool false), (6, Value.bool op), (129, Value.slice (some ⟨0, 0, some 4⟩) e.outs.length e.outs.length), (130, Value.int IntKind.i64 ((e.outs.length : Nat) : Int)), (131, Value.int IntKind.i64 ((pre.length : Nat) : Int))] (wH e (adr false 0) (adr e.iz 1)))
 (Ide.bcase b4
 (Ide.bcase (!op)
 (true = true ∧ (wH e (adr false 0) (adr e.iz 1)) = (wH e (adr false 0) (adr e.iz 1)) ∧ Qb .ret [(1, Value.pointer (some ⟨2, 0, none⟩)), (2, Value.bool false), (6, Value.bool op), (129, Value.slice (some ⟨0, 0, some 4⟩) e.outs.length e.outs.length), (130, Value.int IntKind.i64 ((e.outs.length : Nat) : Int)), (131, Value.int IntKind.i64 ((pre.length : Nat) : Int))] (wH e (adr false 0) (adr e.iz 1)))
 (Ide.bcase (((pre.length : Nat) : Int) == 0)
 (true = true ∧ (wH e (adr false 0) (adr e.iz 1)) = (wH e (adr false 0) (adr e.iz 1)) ∧ Qb .ret [(1, Value.pointer (some ⟨2, 0, none⟩)), (2, Value.bool false), (6, Value.bool op), (129, Value.slice (some ⟨0, 0, some 4⟩) e.outs.length e.outs.length), (130, Value.int IntKind.i64 ((e.outs.length : Nat) : Int)), (131, Value.int IntKind.i64 ((pre.length : Nat) : Int))] (wH e (adr false 0) (adr e.iz 1)))
 (Ide.bcase (decide (((pre.length : Nat) : Int) ≥ 4))
 (true = true ∧ (wH e (adr false 0) (adr e.iz 1)) = (wH e (adr false 0) (adr e.iz 1)) ∧ Qb .ret [(1, Value.pointer (some ⟨2, 0, none⟩)), (2, Value.bool false), (6, Value.bool op), (129, Value.slice (some ⟨0, 0, some 4⟩) e.outs.length e.outs.length), (130, Value.int IntKind.i64 ((e.outs.length : Nat) : Int)), (131, Value.int IntKind.i64 ((pre.length : Nat) : Int))] (wH e (adr false 0) (adr e.iz 1)))
 (true = true ∧ (wH e (adr false 0) (adr e.iz 1)) = (wH e (adr false 0) (adr e.iz 1)) ∧ LW none Pr 157 L36b Qb [(1, Value.pointer (some ⟨2, 0, none⟩)), (2, Value.bool false), (6, Value.bool op), (129, Value.slice (some ⟨0, 0, some 4⟩) e.outs.length e.outs.length), (130, Value.int IntKind.i64 ((e.outs.length : Nat) : Int)), (131, Value.int IntKind.i64 (IntKind.wrap .i64 (((pre.length : Nat) : Int) + 1)))] (wH e (adr false 0) (adr e.iz 1))))))
 (true = true ∧ (wH e (adr false 0) (adr e.iz 1)) = (wH e (adr false 0) (adr e.iz 1)) ∧ LW none Pr 157 L36b Qb [(1, Value.pointer (some ⟨2, 0, none⟩)), (2, Value.bool false), (6, Value.bool op), (129, Value.slice (some ⟨0, 0, some 4⟩) e.outs.length e.outs.length), (130, Value.int IntKind.i64 ((e.outs.length : Nat) : Int)), (131, Value.int IntKind.i64 (IntKind.wrap .i64 (((pre.length : Nat) : Int) + 1)))] (wH e (adr false 0) (adr e.iz 1))))))))
 (true = true ∧ (wH e (adr false 0) (adr e.iz 1)) = (wH e (adr false 0) (adr e.iz 1)) ∧ Qb (.exit 2) [(1, Value.pointer (some ⟨2, 0, none⟩)), (2, Value.bool false), (6, Value.bool op), (129, Value.slice (some ⟨0, 0, some 4⟩) e.outs.length e.outs.length), (130, Value.int IntKind.i64 ((e.outs.length : Nat) : Int)), (131, Value.int IntKind.i64 ((pre.length : Nat) : Int))] (wH e (adr false 0) (adr e.iz 1))))) (by kernel_rfl) ?_
    have hl : pre.length = e.outs.length := by rw [hp]; simp
    refine bcI (fun h => ?_) (fun h => ?_)
    · exfalso; simp at h; omega
    · refine ⟨rfl, rfl, ?_⟩
      rw [hl]
      exact hx rfl
  | cons x post ih =>
    intro pre hp hx hr
    refine loop_sx (hs := [135]) (rf := true) mixed sc0_ok [1, 2, 6, 129, 130, 131] (by kernel_rfl) (wH_in e false e.iz) ?_
    refine Eq.mp (α := (Ide.bcase (decide (((pre.length : Nat) : Int) < ((e.outs.length : Nat) : Int)))
 (0 ≤ ((pre.length : Nat) : Int) ∧ ((pre.length : Nat) : Int) < ((e.outs.length : Nat) : Int) ∧ (∃ s3 : ByteArray, (outC e.outs)[(0 + Int.toNat ((pre.length : Nat) : Int) * 2)]? = some (Value.string s3) ∧ (∃ b4 : Bool, (outC e.outs)[((0 + Int.toNat ((pre.length : Nat) : Int) * 2) + 1)]? = some (Value.bool b4) ∧ (Ide.bcase (decide (((ByteArray.size s3 : Nat) : Int) > 20))
 (true = true ∧ (wH e (adr false 0) (adr e.iz 1)) = (wH e (adr false 0) (adr e.iz 1)) ∧ Qb .ret [(1, Value.pointer (some ⟨2, 0, none⟩)), (2, Value.bool false), (6, Value.bool op), (129, Value.slice (some ⟨0, 0, some 4⟩) e.outs.length e.outs.length), (130, Value.int IntKind.i64 ((e.outs.length : Nat) : Int)), (131, Value.int IntKind.i64 ((pre.length : Nat) : Int))] (wH e (adr false 0) (adr e.iz 1)))
 (Ide.bcase b4
 (Ide.bcase (!op)
 (true = true ∧ (wH e (adr false 0) (adr e.iz 1)) = (wH e (adr false 0) (adr e.iz 1)) ∧ Qb .ret [(1, Value.pointer (some ⟨2, 0, none⟩)), (2, Value.bool false), (6, Value.bool op), (129, Value.slice (some ⟨0, 0, some 4⟩) e.outs.length e.outs.length), (130, Value.int IntKind.i64 ((e.outs.length : Nat) : Int)), (131, Value.int IntKind.i64 ((pre.length : Nat) : Int))] (wH e (adr false 0) (adr e.iz 1)))
 (Ide.bcase (((pre.length : Nat) : Int) == 0)
 (true = true ∧ (wH e (adr false 0) (adr e.iz 1)) = (wH e (adr false 0) (adr e.iz 1)) ∧ Qb .ret [(1, Value.pointer (some ⟨2, 0, none⟩)), (2, Value.bool false), (6, Value.bool op), (129, Value.slice (some ⟨0, 0, some 4⟩) e.outs.length e.outs.length), (130, Value.int IntKind.i64 ((e.outs.length : Nat) : Int)), (131, Value.int IntKind.i64 ((pre.length : Nat) : Int))] (wH e (adr false 0) (adr e.iz 1)))
 (Ide.bcase (decide (((pre.length : Nat) : Int) ≥ 4))
 (true = true ∧ (wH e (adr false 0) (adr e.iz 1)) = (wH e (adr false 0) (adr e.iz 1)) ∧ Qb .ret [(1, Value.pointer (some ⟨2, 0, none⟩)), (2, Value.bool false), (6, Value.bool op), (129, Value.slice (some ⟨0, 0, some 4⟩) e.outs.length e.outs.length), (130, Value.int IntKind.i64 ((e.outs.length : Nat) : Int)), (131, Value.int IntKind.i64 ((pre.length : Nat) : Int))] (wH e (adr false 0) (adr e.iz 1)))
 (true = true ∧ (wH e (adr false 0) (adr e.iz 1)) = (wH e (adr false 0) (adr e.iz 1)) ∧ LW none Pr 157 L36b Qb [(1, Value.pointer (some ⟨2, 0, none⟩)), (2, Value.bool false), (6, Value.bool op), (129, Value.slice (some ⟨0, 0, some 4⟩) e.outs.length e.outs.length), (130, Value.int IntKind.i64 ((e.outs.length : Nat) : Int)), (131, Value.int IntKind.i64 (IntKind.wrap .i64 (((pre.length : Nat) : Int) + 1)))] (wH e (adr false 0) (adr e.iz 1))))))
 (true = true ∧ (wH e (adr false 0) (adr e.iz 1)) = (wH e (adr false 0) (adr e.iz 1)) ∧ LW none Pr 157 L36b Qb [(1, Value.pointer (some ⟨2, 0, none⟩)), (2, Value.bool false), (6, Value.bool op), (129, Value.slice (some ⟨0, 0, some 4⟩) e.outs.length e.outs.length), (130, Value.int IntKind.i64 ((e.outs.length : Nat) : Int)), (131, Value.int IntKind.i64 (IntKind.wrap .i64 (((pre.length : Nat) : Int) + 1)))] (wH e (adr false 0) (adr e.iz 1))))))))
 (true = true ∧ (wH e (adr false 0) (adr e.iz 1)) = (wH e (adr false 0) (adr e.iz 1)) ∧ Qb (.exit 2) [(1, Value.pointer (some ⟨2, 0, none⟩)), (2, Value.bool false), (6, Value.bool op), (129, Value.slice (some ⟨0, 0, some 4⟩) e.outs.length e.outs.length), (130, Value.int IntKind.i64 ((e.outs.length : Nat) : Int)), (131, Value.int IntKind.i64 ((pre.length : Nat) : Int))] (wH e (adr false 0) (adr e.iz 1))))) (by kernel_rfl) ?_
    have hl : e.outs.length = pre.length + post.length + 1 := by rw [hp]; simp; omega
    have next : fO op pre.length (x :: post) = fO op (pre.length + 1) post → LW none Pr 157 L36b Qb (env36b e (adr false 0) op (IntKind.wrap .i64 (((pre.length : Nat) : Int) + 1))) (wH e (adr false 0) (adr e.iz 1)) := by
      intro hq
      rw [wrap_i64 (by omega) (by omega), show ((pre.length : Nat) : Int) + 1 = (((pre ++ [x]).length : Nat) : Int) by simp]
      have hlen : (pre ++ [x]).length = pre.length + 1 := by simp
      refine ih (pre ++ [x]) (by rw [hp]; simp) (fun h => hx ?_) (fun h i => hr ?_ i)
      · rw [hq, ← hlen]; exact h
      · rw [hq, ← hlen]; exact h
    refine bcI (fun h => ?_) (fun h => ?_)
    · refine ⟨by omega, by omega, x.1, ?_, x.2, ?_, bcI (fun h1 => ?_) (fun h1 => bcI (fun h2 => bcI (fun h3 => ?_) (fun h3 => bcI (fun h4 => ?_) (fun h4 => bcI (fun h5 => ?_) (fun h5 => ?_)))) (fun h2 => ?_))⟩
      · rw [hp, show 0 + Int.toNat ((pre.length : Nat) : Int) * 2 = 2 * pre.length by simp; omega]
        exact (outC_get pre x post).1
      · rw [hp, show 0 + Int.toNat ((pre.length : Nat) : Int) * 2 + 1 = 2 * pre.length + 1 by simp; omega]
        exact (outC_get pre x post).2
      · exact ⟨rfl, rfl, hr (by simp only [fO, h1]; simp) _⟩
      · have h3' : op = false := by simpa using h3
        exact ⟨rfl, rfl, hr (by simp only [fO, h1, h2, h3']; simp) _⟩
      · exact ⟨rfl, rfl, hr (by simp only [fO, h1, h2, h4]; simp) _⟩
      · exact ⟨rfl, rfl, hr (by simp only [fO, h1, h2, h4, h5]; simp) _⟩
      · have h3' : op = true := by simpa using h3
        exact ⟨rfl, rfl, next (by simp only [fO, h1, h2, h3', h4, h5]; simp)⟩
      · exact ⟨rfl, rfl, next (by simp only [fO, h1, h2]; simp)⟩
    · exfalso; simp at h; omega

theorem fine_ok {e : SE} (w : Wf e) {H : IHeap} (h0 : H[0]? = some (.cells (outC e.outs) false)) (h1 : H[1]? = some (.cells (inC e.ins) false)) : ICalls Pr 36 [endV e] H (fun r H' => r = .ret (.bool (fineS e)) ∧ H' = H) := by
  refine lift1 rfl (icalls_sx (by kernel_rfl) ?_) h0 h1
  rw [sp36]
  refine iwl_segk (hs := []) (rf := true) mixed sc0_ok [1, 2, 3, 78, 79, 80] A36 _ _ (by kernel_rfl) ?_
  refine Eq.mp (α := (Ide.bcase (decide (e.life < 1))
 (IEnd.ret (Value.bool false) = .ret (.bool (fineS e)))
 (Ide.bcase (decide (e.life > 1000000000))
 (IEnd.ret (Value.bool false) = .ret (.bool (fineS e)))
 (Ide.bcase (decide (e.peer < 0))
 (IEnd.ret (Value.bool false) = .ret (.bool (fineS e)))
 (Ide.bcase (decide (e.peer > 1000000000))
 (IEnd.ret (Value.bool false) = .ret (.bool (fineS e)))
 (Ide.bcase (!((e.phase == 1) == (e.peer == 0)))
 (IEnd.ret (Value.bool false) = .ret (.bool (fineS e)))
 (Ide.bcase (decide (e.phase < 1))
 (IEnd.ret (Value.bool false) = .ret (.bool (fineS e)))
 (Ide.bcase (decide (e.phase > 3))
 (IEnd.ret (Value.bool false) = .ret (.bool (fineS e)))
 (Ide.bcase (decide (((e.outs.length : Nat) : Int) > 12))
 (IEnd.ret (Value.bool false) = .ret (.bool (fineS e)))
 (Ide.bcase (decide (e.base < 0))
 (IEnd.ret (Value.bool false) = .ret (.bool (fineS e)))
 (Ide.bcase (decide (e.want < 0))
 (IEnd.ret (Value.bool false) = .ret (.bool (fineS e)))
 (Ide.bcase (decide (e.want > 1000000000))
 (IEnd.ret (Value.bool false) = .ret (.bool (fineS e)))
 (Ide.bcase (decide (e.base > (IntKind.wrap .i64 (1000000000 - ((e.outs.length : Nat) : Int)))))
 (IEnd.ret (Value.bool false) = .ret (.bool (fineS e)))
 (IWL none Pr 157 (.block 0 (.loop L36a) :: (B36 ++ .block 2 (.loop L36b) :: C36)) (bodyS Pr (ressOf Pr 36) fun r x => r = .ret (.bool (fineS e))) [(1, Value.pointer (some ⟨2, 0, none⟩)), (2, Value.bool false), (3, Value.int IntKind.i64 (IntKind.wrap .i64 (e.want + 1))), (78, Value.slice (adr e.iz 1) e.ins.length e.ins.length), (79, Value.int IntKind.i64 ((e.ins.length : Nat) : Int)), (80, Value.int IntKind.i64 0)] (wH e (adr e.oz 0) (adr e.iz 1)))))))))))))))) (by kernel_rfl) ?_
  have stop : ∀ (b : Bool), b = fineS e → IEnd.ret (Value.bool b) = IEnd.ret (.bool (fineS e)) := fun b h => by rw [h]
  have no1 : fine1S e = false → IEnd.ret (Value.bool false) = IEnd.ret (.bool (fineS e)) := fun h => stop _ (by simp [fineS, h])
  have rest : fine1S e = true → IWL none Pr 157 (.block 0 (.loop L36a) :: (B36 ++ .block 2 (.loop L36b) :: C36)) (bodyS Pr (ressOf Pr 36) fun r x => r = .ret (.bool (fineS e))) (env36a e (adr e.iz 1) (IntKind.wrap .i64 (e.want + 1)) 0) (wH e (adr e.oz 0) (adr e.iz 1)) := by
    intro g1
    have last : ∀ (a : Option Addr) (i : Int), fine2S e = true → fI e.want (IntKind.wrap .i64 (e.want + 1)) e.ins = true → fO (e.phase == 3) 0 e.outs = true → IWL none Pr 157 C36 (bodyS Pr (ressOf Pr 36) fun r x => r = .ret (.bool (fineS e))) (env36b e a (e.phase == 3) i) (wH e a (adr e.iz 1)) := by
      intro a i g3 g2 g4
      refine iwl_last (hs := []) (rf := true) mixed sc0_ok C36 (by kernel_rfl) ?_
      exact Eq.mp (α := IEnd.ret (.bool true) = IEnd.ret (.bool (fineS e))) (by kernel_rfl) (stop _ (by simp only [fineS, g1, g2, g3, g4, Bool.and_self]))
    have mid2 : fine2S e = true → fI e.want (IntKind.wrap .i64 (e.want + 1)) e.ins = true → IWL none Pr 157 (.block 2 (.loop L36b) :: C36) (bodyS Pr (ressOf Pr 36) fun r x => r = .ret (.bool (fineS e))) (env36b e (adr e.oz 0) (e.phase == 3) 0) (wH e (adr e.oz 0) (adr e.iz 1)) := by
      intro g3 g2
      refine iwl_loop ?_
      cases hz : e.oz with
      | true =>
        have ho := w.oz hz
        exact fine_l2z e _ _ ho (last (adr true 0) 0 g3 g2 (by rw [ho]; rfl))
      | false =>
        refine fine_l2 e _ _ w.on e.outs [] rfl (fun h => last (adr false 0) _ g3 g2 h) (fun h i => ?_)
        have h : fO (e.phase == 3) 0 e.outs = false := h
        have hs : false = fineS e := by simp only [fineS, h]; simp
        exact Eq.mp (α := IEnd.ret (.bool false) = IEnd.ret (.bool (fineS e))) (by kernel_rfl) (stop _ hs)
    have mid : ∀ (least i : Int), fI e.want (IntKind.wrap .i64 (e.want + 1)) e.ins = true → IWL none Pr 157 (B36 ++ .block 2 (.loop L36b) :: C36) (bodyS Pr (ressOf Pr 36) fun r x => r = .ret (.bool (fineS e))) (env36a e (adr e.iz 1) least i) (wH e (adr e.oz 0) (adr e.iz 1)) := by
      intro least i g2
      refine iwl_segk (hs := []) (rf := true) mixed sc0_ok [1, 2, 6, 129, 130, 131] B36 _ _ (by kernel_rfl) ?_
      refine Eq.mp (α := (Ide.bcase (!(e.phase == 3))
 (Ide.bcase (decide (e.base > 0))
 (IEnd.ret (Value.bool false) = .ret (.bool (fineS e)))
 (Ide.bcase (decide (e.want > 0))
 (IEnd.ret (Value.bool false) = .ret (.bool (fineS e)))
 (Ide.bcase (decide (((e.ins.length : Nat) : Int) > 0))
 (IEnd.ret (Value.bool false) = .ret (.bool (fineS e)))
 (IWL none Pr 157 (.block 2 (.loop L36b) :: C36) (bodyS Pr (ressOf Pr 36) fun r x => r = .ret (.bool (fineS e))) [(1, Value.pointer (some ⟨2, 0, none⟩)), (2, Value.bool false), (6, Value.bool (e.phase == 3)), (129, Value.slice (adr e.oz 0) e.outs.length e.outs.length), (130, Value.int IntKind.i64 ((e.outs.length : Nat) : Int)), (131, Value.int IntKind.i64 0)] (wH e (adr e.oz 0) (adr e.iz 1))))))
 (IWL none Pr 157 (.block 2 (.loop L36b) :: C36) (bodyS Pr (ressOf Pr 36) fun r x => r = .ret (.bool (fineS e))) [(1, Value.pointer (some ⟨2, 0, none⟩)), (2, Value.bool false), (6, Value.bool (e.phase == 3)), (129, Value.slice (adr e.oz 0) e.outs.length e.outs.length), (130, Value.int IntKind.i64 ((e.outs.length : Nat) : Int)), (131, Value.int IntKind.i64 0)] (wH e (adr e.oz 0) (adr e.iz 1))))) (by kernel_rfl) ?_
      have no2 : fine2S e = false → IEnd.ret (Value.bool false) = IEnd.ret (.bool (fineS e)) := fun h => stop _ (by simp [fineS, h])
      refine bcI (fun k => bcI (fun k2 => no2 ?_) (fun k2 => bcI (fun k3 => no2 ?_) (fun k3 => bcI (fun k4 => no2 ?_) (fun k4 => mid2 ?_ g2)))) (fun k => mid2 ?_ g2)
      · have k' : (e.phase == 3) = false := by simpa using k
        simp only [fine2S, k', k2]; simp
      · have k' : (e.phase == 3) = false := by simpa using k
        simp only [fine2S, k', k3]; simp
      · have k' : (e.phase == 3) = false := by simpa using k
        simp only [fine2S, k', k4]; simp
      · simp only [fine2S, k2, k3, k4]; simp
      · have k' : (e.phase == 3) = true := by simpa using k
        simp only [fine2S, k']; simp
    refine iwl_loop ?_
    cases hz : e.iz with
    | true =>
      have ho := w.iz hz
      have := mid (IntKind.wrap .i64 (e.want + 1)) 0 (by rw [ho]; rfl)
      rw [hz] at this
      exact fine_l1z e _ _ ho this
    | false =>
      refine fine_l1 e _ w.inn e.ins [] _ rfl (fun h least => ?_) (fun h least i => ?_)
      · have := mid least e.ins.length h
        rw [hz] at this
        exact this
      · exact Eq.mp (α := IEnd.ret (.bool false) = IEnd.ret (.bool (fineS e))) (by kernel_rfl) (stop _ (by simp only [fineS, h]; simp))
  refine bcI (fun h => no1 ?_) (fun k1 => bcI (fun h => no1 ?_) (fun k2 => bcI (fun h => no1 ?_) (fun k3 => bcI (fun h => no1 ?_) (fun k4 => bcI (fun h => no1 ?_) (fun k5 => bcI (fun h => no1 ?_) (fun k6 => bcI (fun h => no1 ?_) (fun k7 => bcI (fun h => no1 ?_) (fun k8 => bcI (fun h => no1 ?_) (fun k9 => bcI (fun h => no1 ?_) (fun k10 => bcI (fun h => no1 ?_) (fun k11 => bcI (fun h => no1 ?_) (fun k12 => rest ?_))))))))))))
  case refine_5 =>
    have h' : ((e.phase == 1) == (e.peer == 0)) = false := by simpa using h
    simp only [fine1S, h']; simp
  case refine_13 =>
    have h' : ((e.phase == 1) == (e.peer == 0)) = true := by simpa using k5
    simp only [fine1S, k1, k2, k3, k4, h', k6, k7, k8, k9, k10, k11, k12]; simp
  all_goals (simp only [fine1S, h]; simp)

end Go.Proofs.Ytoikiogaiikheaa.Sess
