/- outs, ins: what is as defined. -/
import Derived.Test.YtoikiogaiikheaaSessB
set_option linter.unusedVariables false
set_option linter.unusedSimpArgs false
set_option maxRecDepth 10000
namespace Go.Proofs.Ytoikiogaiikheaa.Sess
open Go Go.RowKit Ide Go.Proofs

/-! ### outs -/
def okO (F : Int) : Nat → List (ByteArray × Bool) → Bool
  | _, [] => true
  | i, x :: l => decide (x.1.size ≤ 20) && (!x.2 || (decide (1 ≤ i) && decide ((i : Int) < F))) && okO F (i + 1) l
def outsS (e : SE) : Bool := decide (e.outs.length ≤ 12) && okO (flyS e) 0 e.outs

def scFly (e : SE) : SCall := fun g args H K => bif Nat.beq g 38 then (args = [endV e] ∧ H[0]? = some (.cells (outC e.outs) false) ∧ H[1]? = some (.cells (inC e.ins) false) ∧ K (.int .i64 (flyS e)) H) else False
theorem scFly_ok (e : SE) : SOk Pr (scFly e) := by
  intro g args H K h
  unfold scFly at h
  obtain ⟨hg, rfl, h0, h1, hk⟩ := bifF h
  have := Nat.eq_of_beq_eq_true hg
  subst this
  exact (fly_ok e h0 h1).mono fun r H' hr => ⟨_, hr.1, by rw [hr.2]; exact hk⟩

noncomputable def A58 : List Code := (sp 58).take 4
noncomputable def C58 : List Code := (sp 58).drop 5
noncomputable def L58 : Code := loopOf (sp 58) 4
theorem sp58 : Ide.spine (bodyOf Pr 58) [] = A58 ++ .block 0 (.loop L58) :: C58 := by kernel_rfl

theorem outs_lz (e : SE) (Qb : IExit → Env → IHeap → Prop) (ho : e.outs = []) (hx : Qb (.exit 0) [(1, p2), (2, .bool false), (3, .int .i64 0)] (wH e (adr true 0) (adr e.iz 1))) :
    LW none Pr 41 L58 Qb [(1, p2), (2, .bool false), (3, .int .i64 0)] (wH e (adr true 0) (adr e.iz 1)) := by
  refine loop_sx (hs := []) (rf := true) mixed sc0_ok [1, 2, 3] (by kernel_rfl) (wH_in e true e.iz) ?_
  obtain ⟨life, peer, phase, base, want, oz, iz, outs, ins⟩ := e
  subst ho
  exact Eq.mp (α := true = true ∧ wH (SE.mk life peer phase base want oz iz [] ins) (adr true 0) (adr iz 1) = wH (SE.mk life peer phase base want oz iz [] ins) (adr true 0) (adr iz 1) ∧ Qb (.exit 0) [(1, p2), (2, .bool false), (3, .int .i64 0)] (wH (SE.mk life peer phase base want oz iz [] ins) (adr true 0) (adr iz 1))) (by kernel_rfl) ⟨rfl, rfl, hx⟩

theorem outs_l (e : SE) (Qb : IExit → Env → IHeap → Prop) (hn : e.outs.length ≤ 9223372036854775807) (hz : e.oz = false) : ∀ (post pre : List (ByteArray × Bool)), e.outs = pre ++ post →
    (okO (flyS e) pre.length post = true → Qb (.exit 0) [(1, p2), (2, .bool false), (3, .int .i64 e.outs.length)] (wH e (adr false 0) (adr e.iz 1))) →
    (okO (flyS e) pre.length post = false → ∀ i, Qb .ret [(1, p2), (2, .bool false), (3, .int .i64 i)] (wH e (adr false 0) (adr e.iz 1))) →
    LW none Pr 41 L58 Qb [(1, p2), (2, .bool false), (3, .int .i64 (pre.length : Nat))] (wH e (adr false 0) (adr e.iz 1)) := by
  intro post
  induction post with
  | nil =>
    intro pre hp hx hr
    refine loop_sx (hs := [20, 29]) (rf := true) mixed (scFly_ok e) [1, 2, 3] (by kernel_rfl) (wH_in e false e.iz) ?_
    refine Eq.mp (α := (Ide.bcase (decide (((pre.length : Nat) : Int) < ((e.outs.length : Nat) : Int)))
 (0 ≤ ((pre.length : Nat) : Int) ∧ ((pre.length : Nat) : Int) < ((e.outs.length : Nat) : Int) ∧ (∃ s1 : ByteArray, (outC e.outs)[((0 + Int.toNat ((pre.length : Nat) : Int) * 2) + 0)]? = some (Value.string s1) ∧ (Ide.bcase (decide (((ByteArray.size s1 : Nat) : Int) > 20))
 (true = true ∧ (wH e (adr false 0) (adr e.iz 1)) = (wH e (adr false 0) (adr e.iz 1)) ∧ Qb .ret [(1, Value.pointer (some ⟨2, 0, none⟩)), (2, Value.bool false), (3, Value.int IntKind.i64 ((pre.length : Nat) : Int))] (wH e (adr false 0) (adr e.iz 1)))
 (0 ≤ ((pre.length : Nat) : Int) ∧ ((pre.length : Nat) : Int) < ((e.outs.length : Nat) : Int) ∧ (∃ b2 : Bool, (outC e.outs)[((0 + Int.toNat ((pre.length : Nat) : Int) * 2) + 1)]? = some (Value.bool b2) ∧ (Ide.bcase b2
 (Ide.bcase (decide (((pre.length : Nat) : Int) < 1))
 (true = true ∧ (wH e (adr false 0) (adr e.iz 1)) = (wH e (adr false 0) (adr e.iz 1)) ∧ Qb .ret [(1, Value.pointer (some ⟨2, 0, none⟩)), (2, Value.bool false), (3, Value.int IntKind.i64 ((pre.length : Nat) : Int))] (wH e (adr false 0) (adr e.iz 1)))
 ([Value.agg ⟨[Value.int IntKind.i64 e.life, Value.int IntKind.i64 e.peer, Value.int IntKind.i64 e.phase, Value.int IntKind.i64 e.base, Value.slice (some ⟨0, 0, some 4⟩) e.outs.length e.outs.length, Value.int IntKind.i64 e.want, Value.slice (adr e.iz 1) e.ins.length e.ins.length]⟩] = [endV e] ∧ (some (.cells (outC e.outs) false) : Option IObj) = some (.cells (outC e.outs) false) ∧ (some (.cells (inC e.ins) false) : Option IObj) = some (.cells (inC e.ins) false) ∧ (Ide.bcase (decide (((pre.length : Nat) : Int) ≥ (flyS e)))
 (true = true ∧ (wH e (adr false 0) (adr e.iz 1)) = (wH e (adr false 0) (adr e.iz 1)) ∧ Qb .ret [(1, Value.pointer (some ⟨2, 0, none⟩)), (2, Value.bool false), (3, Value.int IntKind.i64 ((pre.length : Nat) : Int))] (wH e (adr false 0) (adr e.iz 1)))
 (true = true ∧ (wH e (adr false 0) (adr e.iz 1)) = (wH e (adr false 0) (adr e.iz 1)) ∧ LW none Pr 41 L58 Qb [(1, Value.pointer (some ⟨2, 0, none⟩)), (2, Value.bool false), (3, Value.int IntKind.i64 (IntKind.wrap .i64 (((pre.length : Nat) : Int) + 1)))] (wH e (adr false 0) (adr e.iz 1))))))
 (true = true ∧ (wH e (adr false 0) (adr e.iz 1)) = (wH e (adr false 0) (adr e.iz 1)) ∧ LW none Pr 41 L58 Qb [(1, Value.pointer (some ⟨2, 0, none⟩)), (2, Value.bool false), (3, Value.int IntKind.i64 (IntKind.wrap .i64 (((pre.length : Nat) : Int) + 1)))] (wH e (adr false 0) (adr e.iz 1)))))))))
 (true = true ∧ (wH e (adr false 0) (adr e.iz 1)) = (wH e (adr false 0) (adr e.iz 1)) ∧ Qb (.exit 0) [(1, Value.pointer (some ⟨2, 0, none⟩)), (2, Value.bool false), (3, Value.int IntKind.i64 ((pre.length : Nat) : Int))] (wH e (adr false 0) (adr e.iz 1))))) (by kernel_rfl) ?_
    have hl : pre.length = e.outs.length := by rw [hp]; simp
    refine bcI (fun h => ?_) (fun h => ?_)
    · exfalso; simp at h; omega
    · refine ⟨rfl, rfl, ?_⟩
      rw [hl]
      exact hx rfl
  | cons x post ih =>
    intro pre hp hx hr
    refine loop_sx (hs := [20, 29]) (rf := true) mixed (scFly_ok e) [1, 2, 3] (by kernel_rfl) (wH_in e false e.iz) ?_
    refine Eq.mp (α := (Ide.bcase (decide (((pre.length : Nat) : Int) < ((e.outs.length : Nat) : Int)))
 (0 ≤ ((pre.length : Nat) : Int) ∧ ((pre.length : Nat) : Int) < ((e.outs.length : Nat) : Int) ∧ (∃ s1 : ByteArray, (outC e.outs)[((0 + Int.toNat ((pre.length : Nat) : Int) * 2) + 0)]? = some (Value.string s1) ∧ (Ide.bcase (decide (((ByteArray.size s1 : Nat) : Int) > 20))
 (true = true ∧ (wH e (adr false 0) (adr e.iz 1)) = (wH e (adr false 0) (adr e.iz 1)) ∧ Qb .ret [(1, Value.pointer (some ⟨2, 0, none⟩)), (2, Value.bool false), (3, Value.int IntKind.i64 ((pre.length : Nat) : Int))] (wH e (adr false 0) (adr e.iz 1)))
 (0 ≤ ((pre.length : Nat) : Int) ∧ ((pre.length : Nat) : Int) < ((e.outs.length : Nat) : Int) ∧ (∃ b2 : Bool, (outC e.outs)[((0 + Int.toNat ((pre.length : Nat) : Int) * 2) + 1)]? = some (Value.bool b2) ∧ (Ide.bcase b2
 (Ide.bcase (decide (((pre.length : Nat) : Int) < 1))
 (true = true ∧ (wH e (adr false 0) (adr e.iz 1)) = (wH e (adr false 0) (adr e.iz 1)) ∧ Qb .ret [(1, Value.pointer (some ⟨2, 0, none⟩)), (2, Value.bool false), (3, Value.int IntKind.i64 ((pre.length : Nat) : Int))] (wH e (adr false 0) (adr e.iz 1)))
 ([Value.agg ⟨[Value.int IntKind.i64 e.life, Value.int IntKind.i64 e.peer, Value.int IntKind.i64 e.phase, Value.int IntKind.i64 e.base, Value.slice (some ⟨0, 0, some 4⟩) e.outs.length e.outs.length, Value.int IntKind.i64 e.want, Value.slice (adr e.iz 1) e.ins.length e.ins.length]⟩] = [endV e] ∧ (some (.cells (outC e.outs) false) : Option IObj) = some (.cells (outC e.outs) false) ∧ (some (.cells (inC e.ins) false) : Option IObj) = some (.cells (inC e.ins) false) ∧ (Ide.bcase (decide (((pre.length : Nat) : Int) ≥ (flyS e)))
 (true = true ∧ (wH e (adr false 0) (adr e.iz 1)) = (wH e (adr false 0) (adr e.iz 1)) ∧ Qb .ret [(1, Value.pointer (some ⟨2, 0, none⟩)), (2, Value.bool false), (3, Value.int IntKind.i64 ((pre.length : Nat) : Int))] (wH e (adr false 0) (adr e.iz 1)))
 (true = true ∧ (wH e (adr false 0) (adr e.iz 1)) = (wH e (adr false 0) (adr e.iz 1)) ∧ LW none Pr 41 L58 Qb [(1, Value.pointer (some ⟨2, 0, none⟩)), (2, Value.bool false), (3, Value.int IntKind.i64 (IntKind.wrap .i64 (((pre.length : Nat) : Int) + 1)))] (wH e (adr false 0) (adr e.iz 1))))))
 (true = true ∧ (wH e (adr false 0) (adr e.iz 1)) = (wH e (adr false 0) (adr e.iz 1)) ∧ LW none Pr 41 L58 Qb [(1, Value.pointer (some ⟨2, 0, none⟩)), (2, Value.bool false), (3, Value.int IntKind.i64 (IntKind.wrap .i64 (((pre.length : Nat) : Int) + 1)))] (wH e (adr false 0) (adr e.iz 1)))))))))
 (true = true ∧ (wH e (adr false 0) (adr e.iz 1)) = (wH e (adr false 0) (adr e.iz 1)) ∧ Qb (.exit 0) [(1, Value.pointer (some ⟨2, 0, none⟩)), (2, Value.bool false), (3, Value.int IntKind.i64 ((pre.length : Nat) : Int))] (wH e (adr false 0) (adr e.iz 1))))) (by kernel_rfl) ?_
    have hl : e.outs.length = pre.length + post.length + 1 := by rw [hp]; simp; omega
    have next : okO (flyS e) pre.length (x :: post) = okO (flyS e) (pre.length + 1) post → LW none Pr 41 L58 Qb [(1, p2), (2, .bool false), (3, .int .i64 (IntKind.wrap .i64 (((pre.length : Nat) : Int) + 1)))] (wH e (adr false 0) (adr e.iz 1)) := by
      intro hq
      rw [wrap_i64 (by omega) (by omega), show ((pre.length : Nat) : Int) + 1 = (((pre ++ [x]).length : Nat) : Int) by simp]
      have hlen : (pre ++ [x]).length = pre.length + 1 := by simp
      refine ih (pre ++ [x]) (by rw [hp]; simp) (fun h => hx ?_) (fun h i => hr ?_ i)
      · rw [hq, ← hlen]; exact h
      · rw [hq, ← hlen]; exact h
    refine bcI (fun h => ?_) (fun h => ?_)
    · refine ⟨by omega, by omega, x.1, ?_, bcI (fun h2 => ?_) (fun h2 => ?_)⟩
      · rw [hp, show 0 + Int.toNat ((pre.length : Nat) : Int) * 2 + 0 = 2 * pre.length by simp; omega]
        exact (outC_get pre x post).1
      · refine ⟨rfl, rfl, hr ?_ _⟩
        have : decide (x.1.size ≤ 20) = false := by simp at h2 ⊢; omega
        simp [okO, this]
      · have h3 : decide (x.1.size ≤ 20) = true := by simp at h2 ⊢; omega
        refine ⟨by omega, by omega, x.2, ?_, bcI (fun h4 => bcI (fun h5 => ?_) (fun h5 => ⟨?_, rfl, rfl, bcI (fun h6 => ?_) (fun h6 => ?_)⟩)) (fun h4 => ?_)⟩
        · rw [hp, show 0 + Int.toNat ((pre.length : Nat) : Int) * 2 + 1 = 2 * pre.length + 1 by simp; omega]
          exact (outC_get pre x post).2
        · refine ⟨rfl, rfl, hr ?_ _⟩
          have : decide (1 ≤ pre.length) = false := by simp only [decide_eq_true_eq, decide_eq_false_iff_not] at h5 ⊢; omega
          simp [okO, h4, this]
        · simp [endV, endW, hz, adr]
        · refine ⟨rfl, rfl, hr ?_ _⟩
          have : decide ((pre.length : Int) < flyS e) = false := by simp only [decide_eq_true_eq, decide_eq_false_iff_not, ge_iff_le, Int.not_lt] at h6 ⊢; exact h6
          simp [okO, h4, this]
        · refine ⟨rfl, rfl, next ?_⟩
          have h7 : decide (1 ≤ pre.length) = true := by simp only [decide_eq_true_eq, decide_eq_false_iff_not] at h5 ⊢; omega
          have h8 : decide ((pre.length : Int) < flyS e) = true := by simp only [decide_eq_true_eq, decide_eq_false_iff_not, ge_iff_le, Int.not_le] at h6 ⊢; exact h6
          simp [okO, h3, h7, h8]
        · refine ⟨rfl, rfl, next ?_⟩
          simp [okO, h3, h4]
    · exfalso; simp at h; omega

theorem outs_ok {e : SE} (w : Wf e) {H : IHeap} (h0 : H[0]? = some (.cells (outC e.outs) false)) (h1 : H[1]? = some (.cells (inC e.ins) false)) : ICalls Pr 58 [endV e] H (fun r H' => r = .ret (.bool (outsS e)) ∧ H' = H) := by
  refine lift1 rfl (icalls_sx (by kernel_rfl) ?_) h0 h1
  rw [sp58]
  refine iwl_segk (hs := []) (rf := true) mixed sc0_ok [1, 2, 3] A58 _ _ (by kernel_rfl) ?_
  refine Eq.mp (α := (Ide.bcase (decide (((e.outs.length : Nat) : Int) > 12))
 (IEnd.ret (Value.bool false) = .ret (.bool (outsS e)))
 (IWL none Pr 41 (.block 0 (.loop L58) :: C58) (bodyS Pr (ressOf Pr 58) fun r x => r = .ret (.bool (outsS e))) [(1, Value.pointer (some ⟨2, 0, none⟩)), (2, Value.bool false), (3, Value.int IntKind.i64 0)] (wH e (adr e.oz 0) (adr e.iz 1))))) (by kernel_rfl) ?_
  refine bcI (fun h => ?_) (fun h => iwl_loop ?_)
  · have : outsS e = false := by simp [outsS] at h ⊢; omega
    rw [this]
  · have h12 : decide (e.outs.length ≤ 12) = true := by simp at h ⊢; omega
    have fin : ∀ (a : Option Addr) (i : Int), okO (flyS e) 0 e.outs = true → IWL none Pr 41 C58 (bodyS Pr (ressOf Pr 58) fun r x => r = .ret (.bool (outsS e))) [(1, p2), (2, .bool false), (3, .int .i64 i)] (wH e a (adr e.iz 1)) := by
      intro a i hl2
      refine iwl_last (hs := []) (rf := true) mixed sc0_ok C58 (by kernel_rfl) ?_
      refine Eq.mp (α := IEnd.ret (.bool true) = IEnd.ret (.bool (outsS e))) (by kernel_rfl) ?_
      simp [outsS, hl2]
      simpa using h12
    cases hz : e.oz with
    | true =>
      have ho := w.oz hz
      exact outs_lz e _ ho (fin (adr true 0) 0 (by rw [ho]; rfl))
    | false =>
      refine outs_l e _ w.on hz e.outs [] rfl (fun h => fin (adr false 0) _ h) (fun h i => ?_)
      refine Eq.mp (α := IEnd.ret (.bool false) = IEnd.ret (.bool (outsS e))) (by kernel_rfl) ?_
      have h : okO (flyS e) 0 e.outs = false := h
      simp [outsS, h]

/-! ### ins -/
def okI (w : Int) : Int → List (Int × ByteArray) → Bool
  | _, [] => true
  | last, x :: l => decide (last < x.1) && decide (IntKind.wrap .i64 (x.1 - w) < 4) && decide (x.1 < 1000000000) && decide (x.2.size ≤ 20) && okI w x.1 l
def insS (e : SE) : Bool := okI e.want e.want e.ins

noncomputable def A59 : List Code := (sp 59).take 3
noncomputable def C59 : List Code := (sp 59).drop 4
noncomputable def L59 : Code := loopOf (sp 59) 3
theorem sp59 : Ide.spine (bodyOf Pr 59) [] = A59 ++ .block 0 (.loop L59) :: C59 := by kernel_rfl

theorem ins_lz (e : SE) (Qb : IExit → Env → IHeap → Prop) (last : Int) (ho : e.ins = []) (hx : Qb (.exit 0) [(1, p2), (2, .bool false), (3, .int .i64 last), (4, .int .i64 0)] (wH e (adr e.oz 0) (adr true 1))) :
    LW none Pr 45 L59 Qb [(1, p2), (2, .bool false), (3, .int .i64 last), (4, .int .i64 0)] (wH e (adr e.oz 0) (adr true 1)) := by
  refine loop_sx (hs := []) (rf := true) mixed sc0_ok [1, 2, 3, 4] (by kernel_rfl) (wH_in e e.oz true) ?_
  obtain ⟨life, peer, phase, base, want, oz, iz, outs, ins⟩ := e
  subst ho
  exact Eq.mp (α := true = true ∧ wH (SE.mk life peer phase base want oz iz outs []) (adr oz 0) (adr true 1) = wH (SE.mk life peer phase base want oz iz outs []) (adr oz 0) (adr true 1) ∧ Qb (.exit 0) [(1, p2), (2, .bool false), (3, .int .i64 last), (4, .int .i64 0)] (wH (SE.mk life peer phase base want oz iz outs []) (adr oz 0) (adr true 1))) (by kernel_rfl) ⟨rfl, rfl, hx⟩

theorem ins_l (e : SE) (Qb : IExit → Env → IHeap → Prop) (hn : e.ins.length ≤ 9223372036854775807) : ∀ (post pre : List (Int × ByteArray)) (last : Int), e.ins = pre ++ post →
    (okI e.want last post = true → ∀ last, Qb (.exit 0) [(1, p2), (2, .bool false), (3, .int .i64 last), (4, .int .i64 e.ins.length)] (wH e (adr e.oz 0) (adr false 1))) →
    (okI e.want last post = false → ∀ last i, Qb .ret [(1, p2), (2, .bool false), (3, .int .i64 last), (4, .int .i64 i)] (wH e (adr e.oz 0) (adr false 1))) →
    LW none Pr 45 L59 Qb [(1, p2), (2, .bool false), (3, .int .i64 last), (4, .int .i64 (pre.length : Nat))] (wH e (adr e.oz 0) (adr false 1)) := by
  intro post
  induction post with
  | nil =>
    intro pre last hp hx hr
    refine loop_sx (hs := [19]) (rf := true) mixed sc0_ok [1, 2, 3, 4] (by kernel_rfl) (wH_in e e.oz false) ?_
    refine Eq.mp (α := (Ide.bcase (decide (((pre.length : Nat) : Int) < ((e.ins.length : Nat) : Int)))
 (0 ≤ ((pre.length : Nat) : Int) ∧ ((pre.length : Nat) : Int) < ((e.ins.length : Nat) : Int) ∧ (∃ n1 : Int, (inC e.ins)[(0 + Int.toNat ((pre.length : Nat) : Int) * 2)]? = some (Value.int IntKind.i64 n1) ∧ (∃ s2 : ByteArray, (inC e.ins)[((0 + Int.toNat ((pre.length : Nat) : Int) * 2) + 1)]? = some (Value.string s2) ∧ (Ide.bcase (decide (n1 ≤ last))
 (true = true ∧ (wH e (adr e.oz 0) (adr false 1)) = (wH e (adr e.oz 0) (adr false 1)) ∧ Qb .ret [(1, Value.pointer (some ⟨2, 0, none⟩)), (2, Value.bool false), (3, Value.int IntKind.i64 last), (4, Value.int IntKind.i64 ((pre.length : Nat) : Int))] (wH e (adr e.oz 0) (adr false 1)))
 (Ide.bcase (decide ((IntKind.wrap .i64 (n1 - e.want)) ≥ 4))
 (true = true ∧ (wH e (adr e.oz 0) (adr false 1)) = (wH e (adr e.oz 0) (adr false 1)) ∧ Qb .ret [(1, Value.pointer (some ⟨2, 0, none⟩)), (2, Value.bool false), (3, Value.int IntKind.i64 last), (4, Value.int IntKind.i64 ((pre.length : Nat) : Int))] (wH e (adr e.oz 0) (adr false 1)))
 (Ide.bcase (decide (n1 ≥ 1000000000))
 (true = true ∧ (wH e (adr e.oz 0) (adr false 1)) = (wH e (adr e.oz 0) (adr false 1)) ∧ Qb .ret [(1, Value.pointer (some ⟨2, 0, none⟩)), (2, Value.bool false), (3, Value.int IntKind.i64 last), (4, Value.int IntKind.i64 ((pre.length : Nat) : Int))] (wH e (adr e.oz 0) (adr false 1)))
 (Ide.bcase (decide (((ByteArray.size s2 : Nat) : Int) > 20))
 (true = true ∧ (wH e (adr e.oz 0) (adr false 1)) = (wH e (adr e.oz 0) (adr false 1)) ∧ Qb .ret [(1, Value.pointer (some ⟨2, 0, none⟩)), (2, Value.bool false), (3, Value.int IntKind.i64 last), (4, Value.int IntKind.i64 ((pre.length : Nat) : Int))] (wH e (adr e.oz 0) (adr false 1)))
 (true = true ∧ (wH e (adr e.oz 0) (adr false 1)) = (wH e (adr e.oz 0) (adr false 1)) ∧ LW none Pr 45 L59 Qb [(1, Value.pointer (some ⟨2, 0, none⟩)), (2, Value.bool false), (3, Value.int IntKind.i64 n1), (4, Value.int IntKind.i64 (IntKind.wrap .i64 (((pre.length : Nat) : Int) + 1)))] (wH e (adr e.oz 0) (adr false 1))))))))))
 (true = true ∧ (wH e (adr e.oz 0) (adr false 1)) = (wH e (adr e.oz 0) (adr false 1)) ∧ Qb (.exit 0) [(1, Value.pointer (some ⟨2, 0, none⟩)), (2, Value.bool false), (3, Value.int IntKind.i64 last), (4, Value.int IntKind.i64 ((pre.length : Nat) : Int))] (wH e (adr e.oz 0) (adr false 1))))) (by kernel_rfl) ?_
    have hl : pre.length = e.ins.length := by rw [hp]; simp
    refine bcI (fun h => ?_) (fun h => ?_)
    · exfalso; simp at h; omega
    · refine ⟨rfl, rfl, ?_⟩
      rw [hl]
      exact hx rfl _
  | cons x post ih =>
    intro pre last hp hx hr
    refine loop_sx (hs := [19]) (rf := true) mixed sc0_ok [1, 2, 3, 4] (by kernel_rfl) (wH_in e e.oz false) ?_
    refine Eq.mp (α := (Ide.bcase (decide (((pre.length : Nat) : Int) < ((e.ins.length : Nat) : Int)))
 (0 ≤ ((pre.length : Nat) : Int) ∧ ((pre.length : Nat) : Int) < ((e.ins.length : Nat) : Int) ∧ (∃ n1 : Int, (inC e.ins)[(0 + Int.toNat ((pre.length : Nat) : Int) * 2)]? = some (Value.int IntKind.i64 n1) ∧ (∃ s2 : ByteArray, (inC e.ins)[((0 + Int.toNat ((pre.length : Nat) : Int) * 2) + 1)]? = some (Value.string s2) ∧ (Ide.bcase (decide (n1 ≤ last))
 (true = true ∧ (wH e (adr e.oz 0) (adr false 1)) = (wH e (adr e.oz 0) (adr false 1)) ∧ Qb .ret [(1, Value.pointer (some ⟨2, 0, none⟩)), (2, Value.bool false), (3, Value.int IntKind.i64 last), (4, Value.int IntKind.i64 ((pre.length : Nat) : Int))] (wH e (adr e.oz 0) (adr false 1)))
 (Ide.bcase (decide ((IntKind.wrap .i64 (n1 - e.want)) ≥ 4))
 (true = true ∧ (wH e (adr e.oz 0) (adr false 1)) = (wH e (adr e.oz 0) (adr false 1)) ∧ Qb .ret [(1, Value.pointer (some ⟨2, 0, none⟩)), (2, Value.bool false), (3, Value.int IntKind.i64 last), (4, Value.int IntKind.i64 ((pre.length : Nat) : Int))] (wH e (adr e.oz 0) (adr false 1)))
 (Ide.bcase (decide (n1 ≥ 1000000000))
 (true = true ∧ (wH e (adr e.oz 0) (adr false 1)) = (wH e (adr e.oz 0) (adr false 1)) ∧ Qb .ret [(1, Value.pointer (some ⟨2, 0, none⟩)), (2, Value.bool false), (3, Value.int IntKind.i64 last), (4, Value.int IntKind.i64 ((pre.length : Nat) : Int))] (wH e (adr e.oz 0) (adr false 1)))
 (Ide.bcase (decide (((ByteArray.size s2 : Nat) : Int) > 20))
 (true = true ∧ (wH e (adr e.oz 0) (adr false 1)) = (wH e (adr e.oz 0) (adr false 1)) ∧ Qb .ret [(1, Value.pointer (some ⟨2, 0, none⟩)), (2, Value.bool false), (3, Value.int IntKind.i64 last), (4, Value.int IntKind.i64 ((pre.length : Nat) : Int))] (wH e (adr e.oz 0) (adr false 1)))
 (true = true ∧ (wH e (adr e.oz 0) (adr false 1)) = (wH e (adr e.oz 0) (adr false 1)) ∧ LW none Pr 45 L59 Qb [(1, Value.pointer (some ⟨2, 0, none⟩)), (2, Value.bool false), (3, Value.int IntKind.i64 n1), (4, Value.int IntKind.i64 (IntKind.wrap .i64 (((pre.length : Nat) : Int) + 1)))] (wH e (adr e.oz 0) (adr false 1))))))))))
 (true = true ∧ (wH e (adr e.oz 0) (adr false 1)) = (wH e (adr e.oz 0) (adr false 1)) ∧ Qb (.exit 0) [(1, Value.pointer (some ⟨2, 0, none⟩)), (2, Value.bool false), (3, Value.int IntKind.i64 last), (4, Value.int IntKind.i64 ((pre.length : Nat) : Int))] (wH e (adr e.oz 0) (adr false 1))))) (by kernel_rfl) ?_
    have hl : e.ins.length = pre.length + post.length + 1 := by rw [hp]; simp; omega
    refine bcI (fun h => ?_) (fun h => ?_)
    · refine ⟨by omega, by omega, x.1, ?_, x.2, ?_, bcI (fun h1 => ?_) (fun h1 => bcI (fun h2 => ?_) (fun h2 => bcI (fun h3 => ?_) (fun h3 => bcI (fun h4 => ?_) (fun h4 => ?_))))⟩
      · rw [hp, show 0 + Int.toNat ((pre.length : Nat) : Int) * 2 = 2 * pre.length by simp; omega]
        exact (inC_get pre x post).1
      · rw [hp, show 0 + Int.toNat ((pre.length : Nat) : Int) * 2 + 1 = 2 * pre.length + 1 by simp; omega]
        exact (inC_get pre x post).2
      · refine ⟨rfl, rfl, hr ?_ _ _⟩
        have : decide (last < x.1) = false := by simp at h1 ⊢; omega
        simp [okI, this]
      · refine ⟨rfl, rfl, hr ?_ _ _⟩
        have : decide (IntKind.wrap .i64 (x.1 - e.want) < 4) = false := by simp at h2 ⊢; omega
        simp [okI, this]
      · refine ⟨rfl, rfl, hr ?_ _ _⟩
        have : decide (x.1 < 1000000000) = false := by simp at h3 ⊢; omega
        simp [okI, this]
      · refine ⟨rfl, rfl, hr ?_ _ _⟩
        have : decide (x.2.size ≤ 20) = false := by simp at h4 ⊢; omega
        simp [okI, this]
      · refine ⟨rfl, rfl, ?_⟩
        have g1 : decide (last < x.1) = true := by simp at h1 ⊢; omega
        have g2 : decide (IntKind.wrap .i64 (x.1 - e.want) < 4) = true := by simp at h2 ⊢; omega
        have g3 : decide (x.1 < 1000000000) = true := by simp at h3 ⊢; omega
        have g4 : decide (x.2.size ≤ 20) = true := by simp at h4 ⊢; omega
        have hq : okI e.want last (x :: post) = okI e.want x.1 post := by simp only [okI, g1, g2, g3, g4, Bool.true_and]
        rw [wrap_i64 (by omega) (by omega), show ((pre.length : Nat) : Int) + 1 = (((pre ++ [x]).length : Nat) : Int) by simp]
        exact ih (pre ++ [x]) x.1 (by rw [hp]; simp) (fun h => hx (hq.trans h)) (fun h => hr (hq.trans h))
    · exfalso; simp at h; omega

theorem ins_ok {e : SE} (w : Wf e) {H : IHeap} (h0 : H[0]? = some (.cells (outC e.outs) false)) (h1 : H[1]? = some (.cells (inC e.ins) false)) : ICalls Pr 59 [endV e] H (fun r H' => r = .ret (.bool (insS e)) ∧ H' = H) := by
  refine lift1 rfl (icalls_sx (by kernel_rfl) ?_) h0 h1
  rw [sp59]
  refine iwl_segk (hs := []) (rf := true) mixed sc0_ok [1, 2, 3, 4] A59 _ _ (by kernel_rfl) ?_
  refine Eq.mp (α := (IWL none Pr 45 (.block 0 (.loop L59) :: C59) (bodyS Pr (ressOf Pr 59) fun r x => r = .ret (.bool (insS e))) [(1, Value.pointer (some ⟨2, 0, none⟩)), (2, Value.bool false), (3, Value.int IntKind.i64 e.want), (4, Value.int IntKind.i64 0)] (wH e (adr e.oz 0) (adr e.iz 1)))) (by kernel_rfl) ?_
  refine iwl_loop ?_
  have fin : ∀ (a : Option Addr) (last i : Int), insS e = true → IWL none Pr 45 C59 (bodyS Pr (ressOf Pr 59) fun r x => r = .ret (.bool (insS e))) [(1, p2), (2, .bool false), (3, .int .i64 last), (4, .int .i64 i)] (wH e (adr e.oz 0) a) := by
    intro a last i hl2
    refine iwl_last (hs := []) (rf := true) mixed sc0_ok C59 (by kernel_rfl) ?_
    refine Eq.mp (α := IEnd.ret (.bool true) = IEnd.ret (.bool (insS e))) (by kernel_rfl) ?_
    rw [hl2]
  cases hz : e.iz with
  | true =>
    have ho := w.iz hz
    exact ins_lz e _ _ ho (fin (adr true 1) _ 0 (by unfold insS; rw [ho]; rfl))
  | false =>
    refine ins_l e _ w.inn e.ins [] e.want rfl (fun h last => fin (adr false 1) _ _ h) (fun h last i => ?_)
    refine Eq.mp (α := IEnd.ret (.bool false) = IEnd.ret (.bool (insS e))) (by kernel_rfl) ?_
    have h : insS e = false := h
    rw [h]

end Go.Proofs.Ytoikiogaiikheaa.Sess
