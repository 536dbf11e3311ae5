/- What an end sends from time to time, by the reference. -/
import Derived.Test.YtoikiogaiikheaaSndAU
set_option linter.unusedSectionVars false
set_option linter.unusedVariables false
set_option linter.unusedSimpArgs false
set_option maxRecDepth 10000
namespace Go.Proofs.Ytoikiogaiikheaa.Sess
open Go Go.RowKit Ide Go.Proofs

theorem pksC_len : ∀ l : List Pkt, (pksC l).length = l.length * 7
  | [] => rfl
  | x :: l => by show (pktW x ++ pksC l).length = _; rw [List.length_append, pksC_len l]; simp [pktW]; omega
theorem pksC_all (l : List Pkt) : List.take (l.length * 7) (List.drop 0 (pksC l)) = pksC l := by rw [List.drop_zero, ← pksC_len, List.take_length]
theorem pksC_app (a b : List Pkt) : pksC (a ++ b) = pksC a ++ pksC b := List.flatMap_append
theorem ground_pksC : ∀ l : List Pkt, ground.groundL (pksC l) = true
  | [] => rfl
  | x :: l => by show ground.groundL (pktW x ++ pksC l) = true; rw [groundL_append, ground_pksC l]; rfl

/-- The packets of the messages that were sent and are not held. -/
def tickP (e : SE) (n : Int) : Nat → List (ByteArray × Bool) → List Pkt
  | i, x :: l => if ((i : Nat) : Int) < n then (if x.2 = true then tickP e n (i + 1) l else dataS e ((i : Nat) : Int) x.1 :: tickP e n (i + 1) l) else []
  | _, [] => []

noncomputable def A15 : List Code := (sp 15).take 7
noncomputable def C15 : List Code := (sp 15).drop 8
noncomputable def L15 : Code := loopOf (sp 15) 7
theorem sp15 : Ide.spine (bodyOf Pr 15) [] = A15 ++ .block 0 (.loop L15) :: C15 := by kernel_rfl

def scTick (e : SE) (i j : Nat) (r1 r2 : Bool) : SCall :=
  scC 22 (cR [endP e (i + 64) (j + 64)] (HasP e (i + 64) (j + 64) r1 r2) (.bool (goodS e)))
  (scC 40 (cR [endP e (i + 64) (j + 64)] (HasP e (i + 64) (j + 64) r1 r2) (pktV (greetS e)))
  (scC 38 (cR [endP e (i + 64) (j + 64)] (HasP e (i + 64) (j + 64) r1 r2) (.int .i64 (flyS e)))
  (scC 41 (cR [endP e (i + 64) (j + 64)] (HasP e (i + 64) (j + 64) r1 r2) (pktV (reportS e)))
  (scC 39 (cI (endP e (i + 64) (j + 64)) (fun k H => (0 ≤ k ∧ k < ((e.outs.length : Nat) : Int)) ∧ HasP e (i + 64) (j + 64) r1 r2 H) (fun k => pktV (dataS e k (textAt e.outs k)))) sc0))))
theorem scTick_ok {e : SE} (z : Nz e) {i j : Nat} {r1 r2 : Bool} : SOk Pr (scTick e i j r1 r2) :=
  scC_ok (cR_ok fun H h => good_p z h) (scC_ok (cR_ok fun H h => greet_p z h) (scC_ok (cR_ok fun H h => fly_p z h) (scC_ok (cR_ok fun H h => report_p z h)
    (scC_ok (cI_ok fun k H h => data_p z h.1 h.2) sc0_ok))))

def endW64 (e : SE) (a b : Nat) : List Value := [.int .i64 e.life, .int .i64 e.peer, .int .i64 e.phase, .int .i64 e.base, .slice (some ⟨a, 0, some 4⟩) e.outs.length e.outs.length, .int .i64 e.want, .slice (some ⟨b, 0, some 4⟩) e.ins.length e.ins.length]

theorem tick_l {r : Root} {e : SE} (z : Nz e) {i j : Nat} {r1 r2 : Bool} {H B : IHeap} (hB : B = H.map (mvO shU)) (hm : r.m = 64 + H.length) (g1 : B[i]? = some (.cells (outC e.outs) r1)) (gH : ∀ l, HasP e (i + 64) (j + 64) r1 r2 (pad 64 l B))
    (Qb : IExit → Env → IHeap → Prop) : ∀ (post pre : List (ByteArray × Bool)) (acc : List Pkt), e.outs = pre ++ post → acc.length ≤ pre.length →
    (∀ k, Qb (.exit 0) [(1, ptrTo 0 0), (4, pksV (acc ++ tickP e (flyS e) pre.length post) 1), (5, .int .i64 k)] (pad 64 [.cells (endW64 e (i + 64) (j + 64)) true, .cells (pksC (acc ++ tickP e (flyS e) pre.length post)) true] B)) →
    LWQ r none Pr 39 L15 Qb [(1, ptrTo 0 0), (4, pksV acc 1), (5, .int .i64 ((pre.length : Nat) : Int))] (pad 64 [.cells (endW64 e (i + 64) (j + 64)) true, .cells (pksC acc) true] B) := by
  have hfly : flyS e ≤ ((e.outs.length : Nat) : Int) := by unfold flyS; split <;> (try split) <;> omega
  have hon := z.on
  intro post
  induction post with
  | nil =>
    intro pre acc hp ha hx
    refine lwq_round (hs := []) (sc := scTick e i j r1 r2) (rf := true) mixed (scTick_ok z) 40 [1, 4, 5] (by kernel_rfl) ?_
    refine Eq.mp (α := (([Value.agg ⟨[Value.int IntKind.i64 e.life, Value.int IntKind.i64 e.peer, Value.int IntKind.i64 e.phase, Value.int IntKind.i64 e.base, Value.slice (some ⟨(i + 64), 0, some 4⟩) e.outs.length e.outs.length, Value.int IntKind.i64 e.want, Value.slice (some ⟨(j + 64), 0, some 4⟩) e.ins.length e.ins.length]⟩] : List Value) = ([endP e (i + 64) (j + 64)] : List Value) ∧ (HasP e (i + 64) (j + 64) r1 r2 (Ide.pad 64 [.cells [Value.int IntKind.i64 e.life, Value.int IntKind.i64 e.peer, Value.int IntKind.i64 e.phase, Value.int IntKind.i64 e.base, Value.slice (some ⟨(i + 64), 0, some 4⟩) e.outs.length e.outs.length, Value.int IntKind.i64 e.want, Value.slice (some ⟨(j + 64), 0, some 4⟩) e.ins.length e.ins.length] true, .cells (pksC acc) true] B)) ∧ (Ide.bcase (decide (((pre.length : Nat) : Int) < (flyS e)))
 (0 ≤ ((pre.length : Nat) : Int) ∧ ((pre.length : Nat) : Int) < ((e.outs.length : Nat) : Int) ∧ (∃ b1 : Bool, Ide.cellAt B i ((0 + Int.toNat ((pre.length : Nat) : Int) * 2) + 1) = some (Value.bool b1) ∧ (Ide.bcase (!b1)
 ((Value.agg ⟨[Value.int IntKind.i64 e.life, Value.int IntKind.i64 e.peer, Value.int IntKind.i64 e.phase, Value.int IntKind.i64 e.base, Value.slice (some ⟨(i + 64), 0, some 4⟩) e.outs.length e.outs.length, Value.int IntKind.i64 e.want, Value.slice (some ⟨(j + 64), 0, some 4⟩) e.ins.length e.ins.length]⟩ = endP e (i + 64) (j + 64) ∧ IntKind.i64 = IntKind.i64) ∧ ((0 ≤ ((pre.length : Nat) : Int) ∧ ((pre.length : Nat) : Int) < ((e.outs.length : Nat) : Int)) ∧ HasP e (i + 64) (j + 64) r1 r2 (Ide.pad 64 [.cells [Value.int IntKind.i64 e.life, Value.int IntKind.i64 e.peer, Value.int IntKind.i64 e.phase, Value.int IntKind.i64 e.base, Value.slice (some ⟨(i + 64), 0, some 4⟩) e.outs.length e.outs.length, Value.int IntKind.i64 e.want, Value.slice (some ⟨(j + 64), 0, some 4⟩) e.ins.length e.ins.length] true, .cells (pksC acc) true] B)) ∧ (((acc.length + 1) * 64 ≤ 70368744177664 ∧ acc.length + 1 ≤ 70368744177664) ∧ (0 + acc.length * 7 ≤ List.length ((pksC acc) : List Value) ∧ (0 + 1 * 7 ≤ List.length ([Value.int IntKind.i64 ((dataS e (((pre.length : Nat) : Int)) (textAt e.outs (((pre.length : Nat) : Int)))).kind), Value.int IntKind.i64 ((dataS e (((pre.length : Nat) : Int)) (textAt e.outs (((pre.length : Nat) : Int)))).src), Value.int IntKind.i64 ((dataS e (((pre.length : Nat) : Int)) (textAt e.outs (((pre.length : Nat) : Int)))).dst), Value.int IntKind.i64 ((dataS e (((pre.length : Nat) : Int)) (textAt e.outs (((pre.length : Nat) : Int)))).num), Value.string (dataS e (((pre.length : Nat) : Int)) (textAt e.outs (((pre.length : Nat) : Int)))).text, Value.int IntKind.i64 ((dataS e (((pre.length : Nat) : Int)) (textAt e.outs (((pre.length : Nat) : Int)))).ack), Value.int IntKind.i64 ((dataS e (((pre.length : Nat) : Int)) (textAt e.outs (((pre.length : Nat) : Int)))).held)] : List Value) ∧ ((7 = 7 ∧ true = true) ∧ acc.length < (acc.length + 1) ∧ (LWQ r none Pr 39 L15 Qb [(1, Value.pointer (some ⟨0, 0, none⟩)), (4, Value.slice (some ⟨3, 0, some 14⟩) (acc.length + 1) (acc.length + 1)), (5, Value.int IntKind.i64 (IntKind.wrap .i64 (((pre.length : Nat) : Int) + 1)))] (Ide.pad 64 [.cells [Value.int IntKind.i64 e.life, Value.int IntKind.i64 e.peer, Value.int IntKind.i64 e.phase, Value.int IntKind.i64 e.base, Value.slice (some ⟨(i + 64), 0, some 4⟩) e.outs.length e.outs.length, Value.int IntKind.i64 e.want, Value.slice (some ⟨(j + 64), 0, some 4⟩) e.ins.length e.ins.length] true, .dead, .cells [Value.int IntKind.i64 ((dataS e (((pre.length : Nat) : Int)) (textAt e.outs (((pre.length : Nat) : Int)))).kind), Value.int IntKind.i64 ((dataS e (((pre.length : Nat) : Int)) (textAt e.outs (((pre.length : Nat) : Int)))).src), Value.int IntKind.i64 ((dataS e (((pre.length : Nat) : Int)) (textAt e.outs (((pre.length : Nat) : Int)))).dst), Value.int IntKind.i64 ((dataS e (((pre.length : Nat) : Int)) (textAt e.outs (((pre.length : Nat) : Int)))).num), Value.string (dataS e (((pre.length : Nat) : Int)) (textAt e.outs (((pre.length : Nat) : Int)))).text, Value.int IntKind.i64 ((dataS e (((pre.length : Nat) : Int)) (textAt e.outs (((pre.length : Nat) : Int)))).ack), Value.int IntKind.i64 ((dataS e (((pre.length : Nat) : Int)) (textAt e.outs (((pre.length : Nat) : Int)))).held)] true, .cells ((List.take (acc.length * 7) (List.drop 0 (pksC acc)) : List Value) ++ [Value.int IntKind.i64 ((dataS e (((pre.length : Nat) : Int)) (textAt e.outs (((pre.length : Nat) : Int)))).kind), Value.int IntKind.i64 ((dataS e (((pre.length : Nat) : Int)) (textAt e.outs (((pre.length : Nat) : Int)))).src), Value.int IntKind.i64 ((dataS e (((pre.length : Nat) : Int)) (textAt e.outs (((pre.length : Nat) : Int)))).dst), Value.int IntKind.i64 ((dataS e (((pre.length : Nat) : Int)) (textAt e.outs (((pre.length : Nat) : Int)))).num), Value.string (dataS e (((pre.length : Nat) : Int)) (textAt e.outs (((pre.length : Nat) : Int)))).text, Value.int IntKind.i64 ((dataS e (((pre.length : Nat) : Int)) (textAt e.outs (((pre.length : Nat) : Int)))).ack), Value.int IntKind.i64 ((dataS e (((pre.length : Nat) : Int)) (textAt e.outs (((pre.length : Nat) : Int)))).held)]) true] B)))))))
 (LWQ r none Pr 39 L15 Qb [(1, Value.pointer (some ⟨0, 0, none⟩)), (4, Value.slice (some ⟨1, 0, some 14⟩) acc.length acc.length), (5, Value.int IntKind.i64 (IntKind.wrap .i64 (((pre.length : Nat) : Int) + 1)))] (Ide.pad 64 [.cells [Value.int IntKind.i64 e.life, Value.int IntKind.i64 e.peer, Value.int IntKind.i64 e.phase, Value.int IntKind.i64 e.base, Value.slice (some ⟨(i + 64), 0, some 4⟩) e.outs.length e.outs.length, Value.int IntKind.i64 e.want, Value.slice (some ⟨(j + 64), 0, some 4⟩) e.ins.length e.ins.length] true, .cells (pksC acc) true] B)))))
 (Qb (.exit 0) [(1, Value.pointer (some ⟨0, 0, none⟩)), (4, Value.slice (some ⟨1, 0, some 14⟩) acc.length acc.length), (5, Value.int IntKind.i64 ((pre.length : Nat) : Int))] (Ide.pad 64 [.cells [Value.int IntKind.i64 e.life, Value.int IntKind.i64 e.peer, Value.int IntKind.i64 e.phase, Value.int IntKind.i64 e.base, Value.slice (some ⟨(i + 64), 0, some 4⟩) e.outs.length e.outs.length, Value.int IntKind.i64 e.want, Value.slice (some ⟨(j + 64), 0, some 4⟩) e.ins.length e.ins.length] true, .cells (pksC acc) true] B))))) (by kernel_rfl) ?_
    have hl : e.outs.length = pre.length := by rw [hp]; simp
    refine ⟨rfl, gH _, bcI (fun h => ?_) fun h => ?_⟩
    · exfalso; simp at h; omega
    · have := hx ((pre.length : Nat) : Int)
      simp only [tickP, List.append_nil] at this
      exact this
  | cons x post ih =>
    intro pre acc hp ha hx
    refine lwq_round (hs := []) (sc := scTick e i j r1 r2) (rf := true) mixed (scTick_ok z) 40 [1, 4, 5] (by kernel_rfl) ?_
    refine Eq.mp (α := (([Value.agg ⟨[Value.int IntKind.i64 e.life, Value.int IntKind.i64 e.peer, Value.int IntKind.i64 e.phase, Value.int IntKind.i64 e.base, Value.slice (some ⟨(i + 64), 0, some 4⟩) e.outs.length e.outs.length, Value.int IntKind.i64 e.want, Value.slice (some ⟨(j + 64), 0, some 4⟩) e.ins.length e.ins.length]⟩] : List Value) = ([endP e (i + 64) (j + 64)] : List Value) ∧ (HasP e (i + 64) (j + 64) r1 r2 (Ide.pad 64 [.cells [Value.int IntKind.i64 e.life, Value.int IntKind.i64 e.peer, Value.int IntKind.i64 e.phase, Value.int IntKind.i64 e.base, Value.slice (some ⟨(i + 64), 0, some 4⟩) e.outs.length e.outs.length, Value.int IntKind.i64 e.want, Value.slice (some ⟨(j + 64), 0, some 4⟩) e.ins.length e.ins.length] true, .cells (pksC acc) true] B)) ∧ (Ide.bcase (decide (((pre.length : Nat) : Int) < (flyS e)))
 (0 ≤ ((pre.length : Nat) : Int) ∧ ((pre.length : Nat) : Int) < ((e.outs.length : Nat) : Int) ∧ (∃ b1 : Bool, Ide.cellAt B i ((0 + Int.toNat ((pre.length : Nat) : Int) * 2) + 1) = some (Value.bool b1) ∧ (Ide.bcase (!b1)
 ((Value.agg ⟨[Value.int IntKind.i64 e.life, Value.int IntKind.i64 e.peer, Value.int IntKind.i64 e.phase, Value.int IntKind.i64 e.base, Value.slice (some ⟨(i + 64), 0, some 4⟩) e.outs.length e.outs.length, Value.int IntKind.i64 e.want, Value.slice (some ⟨(j + 64), 0, some 4⟩) e.ins.length e.ins.length]⟩ = endP e (i + 64) (j + 64) ∧ IntKind.i64 = IntKind.i64) ∧ ((0 ≤ ((pre.length : Nat) : Int) ∧ ((pre.length : Nat) : Int) < ((e.outs.length : Nat) : Int)) ∧ HasP e (i + 64) (j + 64) r1 r2 (Ide.pad 64 [.cells [Value.int IntKind.i64 e.life, Value.int IntKind.i64 e.peer, Value.int IntKind.i64 e.phase, Value.int IntKind.i64 e.base, Value.slice (some ⟨(i + 64), 0, some 4⟩) e.outs.length e.outs.length, Value.int IntKind.i64 e.want, Value.slice (some ⟨(j + 64), 0, some 4⟩) e.ins.length e.ins.length] true, .cells (pksC acc) true] B)) ∧ (((acc.length + 1) * 64 ≤ 70368744177664 ∧ acc.length + 1 ≤ 70368744177664) ∧ (0 + acc.length * 7 ≤ List.length ((pksC acc) : List Value) ∧ (0 + 1 * 7 ≤ List.length ([Value.int IntKind.i64 ((dataS e (((pre.length : Nat) : Int)) (textAt e.outs (((pre.length : Nat) : Int)))).kind), Value.int IntKind.i64 ((dataS e (((pre.length : Nat) : Int)) (textAt e.outs (((pre.length : Nat) : Int)))).src), Value.int IntKind.i64 ((dataS e (((pre.length : Nat) : Int)) (textAt e.outs (((pre.length : Nat) : Int)))).dst), Value.int IntKind.i64 ((dataS e (((pre.length : Nat) : Int)) (textAt e.outs (((pre.length : Nat) : Int)))).num), Value.string (dataS e (((pre.length : Nat) : Int)) (textAt e.outs (((pre.length : Nat) : Int)))).text, Value.int IntKind.i64 ((dataS e (((pre.length : Nat) : Int)) (textAt e.outs (((pre.length : Nat) : Int)))).ack), Value.int IntKind.i64 ((dataS e (((pre.length : Nat) : Int)) (textAt e.outs (((pre.length : Nat) : Int)))).held)] : List Value) ∧ ((7 = 7 ∧ true = true) ∧ acc.length < (acc.length + 1) ∧ (LWQ r none Pr 39 L15 Qb [(1, Value.pointer (some ⟨0, 0, none⟩)), (4, Value.slice (some ⟨3, 0, some 14⟩) (acc.length + 1) (acc.length + 1)), (5, Value.int IntKind.i64 (IntKind.wrap .i64 (((pre.length : Nat) : Int) + 1)))] (Ide.pad 64 [.cells [Value.int IntKind.i64 e.life, Value.int IntKind.i64 e.peer, Value.int IntKind.i64 e.phase, Value.int IntKind.i64 e.base, Value.slice (some ⟨(i + 64), 0, some 4⟩) e.outs.length e.outs.length, Value.int IntKind.i64 e.want, Value.slice (some ⟨(j + 64), 0, some 4⟩) e.ins.length e.ins.length] true, .dead, .cells [Value.int IntKind.i64 ((dataS e (((pre.length : Nat) : Int)) (textAt e.outs (((pre.length : Nat) : Int)))).kind), Value.int IntKind.i64 ((dataS e (((pre.length : Nat) : Int)) (textAt e.outs (((pre.length : Nat) : Int)))).src), Value.int IntKind.i64 ((dataS e (((pre.length : Nat) : Int)) (textAt e.outs (((pre.length : Nat) : Int)))).dst), Value.int IntKind.i64 ((dataS e (((pre.length : Nat) : Int)) (textAt e.outs (((pre.length : Nat) : Int)))).num), Value.string (dataS e (((pre.length : Nat) : Int)) (textAt e.outs (((pre.length : Nat) : Int)))).text, Value.int IntKind.i64 ((dataS e (((pre.length : Nat) : Int)) (textAt e.outs (((pre.length : Nat) : Int)))).ack), Value.int IntKind.i64 ((dataS e (((pre.length : Nat) : Int)) (textAt e.outs (((pre.length : Nat) : Int)))).held)] true, .cells ((List.take (acc.length * 7) (List.drop 0 (pksC acc)) : List Value) ++ [Value.int IntKind.i64 ((dataS e (((pre.length : Nat) : Int)) (textAt e.outs (((pre.length : Nat) : Int)))).kind), Value.int IntKind.i64 ((dataS e (((pre.length : Nat) : Int)) (textAt e.outs (((pre.length : Nat) : Int)))).src), Value.int IntKind.i64 ((dataS e (((pre.length : Nat) : Int)) (textAt e.outs (((pre.length : Nat) : Int)))).dst), Value.int IntKind.i64 ((dataS e (((pre.length : Nat) : Int)) (textAt e.outs (((pre.length : Nat) : Int)))).num), Value.string (dataS e (((pre.length : Nat) : Int)) (textAt e.outs (((pre.length : Nat) : Int)))).text, Value.int IntKind.i64 ((dataS e (((pre.length : Nat) : Int)) (textAt e.outs (((pre.length : Nat) : Int)))).ack), Value.int IntKind.i64 ((dataS e (((pre.length : Nat) : Int)) (textAt e.outs (((pre.length : Nat) : Int)))).held)]) true] B)))))))
 (LWQ r none Pr 39 L15 Qb [(1, Value.pointer (some ⟨0, 0, none⟩)), (4, Value.slice (some ⟨1, 0, some 14⟩) acc.length acc.length), (5, Value.int IntKind.i64 (IntKind.wrap .i64 (((pre.length : Nat) : Int) + 1)))] (Ide.pad 64 [.cells [Value.int IntKind.i64 e.life, Value.int IntKind.i64 e.peer, Value.int IntKind.i64 e.phase, Value.int IntKind.i64 e.base, Value.slice (some ⟨(i + 64), 0, some 4⟩) e.outs.length e.outs.length, Value.int IntKind.i64 e.want, Value.slice (some ⟨(j + 64), 0, some 4⟩) e.ins.length e.ins.length] true, .cells (pksC acc) true] B)))))
 (Qb (.exit 0) [(1, Value.pointer (some ⟨0, 0, none⟩)), (4, Value.slice (some ⟨1, 0, some 14⟩) acc.length acc.length), (5, Value.int IntKind.i64 ((pre.length : Nat) : Int))] (Ide.pad 64 [.cells [Value.int IntKind.i64 e.life, Value.int IntKind.i64 e.peer, Value.int IntKind.i64 e.phase, Value.int IntKind.i64 e.base, Value.slice (some ⟨(i + 64), 0, some 4⟩) e.outs.length e.outs.length, Value.int IntKind.i64 e.want, Value.slice (some ⟨(j + 64), 0, some 4⟩) e.ins.length e.ins.length] true, .cells (pksC acc) true] B))))) (by kernel_rfl) ?_
    have hl : e.outs.length = pre.length + post.length + 1 := by rw [hp]; simp; omega
    have hw : IntKind.wrap .i64 (((pre.length : Nat) : Int) + 1) = (((pre ++ [x]).length : Nat) : Int) := by rw [wrap_i64 (by omega) (by omega)]; simp
    have hcell : cellAt B i (0 + Int.toNat ((pre.length : Nat) : Int) * 2 + 1) = some (.bool x.2) := by
      unfold cellAt
      rw [g1]
      show (outC e.outs)[_]? = _
      rw [hp, show 0 + Int.toNat ((pre.length : Nat) : Int) * 2 + 1 = 2 * pre.length + 1 by simp; omega]
      exact (outC_get pre x post).2
    have htext : textAt e.outs ((pre.length : Nat) : Int) = x.1 := by unfold textAt; rw [hp]; simp
    have hlast : (pre ++ [x]).length = pre.length + 1 := by simp
    have hp' : e.outs = (pre ++ [x]) ++ post := by rw [hp]; simp
    rw [htext, pksC_all, hw]
    refine ⟨rfl, gH _, bcI (fun h => ⟨by omega, by omega, x.2, hcell, bcI (fun hb => ?_) fun hb => ?_⟩) fun h => ?_⟩
    · have h : ((pre.length : Nat) : Int) < flyS e := by simpa using h
      have hb : ¬ x.2 = true := by simpa using hb
      have e1 : acc ++ tickP e (flyS e) pre.length (x :: post) = (acc ++ [dataS e ((pre.length : Nat) : Int) x.1]) ++ tickP e (flyS e) (pre ++ [x]).length post := by
        simp only [tickP, if_pos h, if_neg hb, hlast, List.append_assoc, List.cons_append, List.nil_append]
      refine ⟨⟨rfl, rfl⟩, ⟨⟨by omega, by omega⟩, gH _⟩, ⟨by omega, by omega⟩, by rw [pksC_len]; omega, Nat.le_refl _, ⟨rfl, rfl⟩, by omega, ?_⟩
      refine LWQ.move (Move.own hB hm (mp := [(0, 0), (3, 1)]) (l2 := [.cells (endW64 e (i + 64) (j + 64)) true, .cells (pksC (acc ++ [dataS e ((pre.length : Nat) : Int) x.1])) true]) rfl ⟨.inr (LessO.same (by kernel_rfl)), .inr (LessO.plainEq (by rw [pksC_app]; rfl) (ground_pksC _)), trivial⟩
        (env2 := [(1, ptrTo 0 0), (4, pksV (acc ++ [dataS e ((pre.length : Nat) : Int) x.1]) 1), (5, .int .i64 (((pre ++ [x]).length : Nat) : Int))]) ⟨⟨rfl, Less.same (by kernel_rfl)⟩, ⟨rfl, ?_⟩, ⟨rfl, Less.refl _⟩, trivial⟩) (ih _ _ hp' (by simp; omega) (fun k => by rw [← e1]; exact hx k))
      unfold pksV
      rw [List.length_append]
      exact Less.same (by kernel_rfl)
    · have h : ((pre.length : Nat) : Int) < flyS e := by simpa using h
      have hb : x.2 = true := by simpa using hb
      have e1 : acc ++ tickP e (flyS e) pre.length (x :: post) = acc ++ tickP e (flyS e) (pre ++ [x]).length post := by simp only [tickP, if_pos h, if_pos hb, hlast]
      exact ih _ _ hp' (by simp; omega) (fun k => by rw [← e1]; exact hx k)
    · have h : ¬ ((pre.length : Nat) : Int) < flyS e := by simpa using h
      have e1 : acc ++ tickP e (flyS e) pre.length (x :: post) = acc := by simp only [tickP, if_neg h, List.append_nil]
      have := hx ((pre.length : Nat) : Int)
      rw [e1] at this
      exact this

/-- What Tick returns. -/
def tickL (e : SE) : List Pkt := if e.phase = 3 then tickP e (flyS e) 0 e.outs ++ [reportS e] else [greetS e]
def TickR (ok : Bool) (pks : List Pkt) (H : IHeap) (r : IEnd) (H' : IHeap) : Prop :=
  if ok = true then ∃ objs k, H' = H ++ objs ∧ r = .ret (.tuple ⟨[pksV pks k, .int .i64 0]⟩) ∧ H'[k]? = some (.cells (pksC pks) true) ∧ H.length ≤ k
  else H' = H ∧ r = .ret (.tuple ⟨[.slice none 0 0, .int .i64 2]⟩)

theorem tick_len (e : SE) (n : Int) : ∀ (l : List (ByteArray × Bool)) (i : Nat), (tickP e n i l).length ≤ l.length
  | [], i => by simp [tickP]
  | x :: l, i => by
    simp only [tickP]
    have := tick_len e n l (i + 1)
    split
    · split
      · simp; omega
      · simp; omega
    · simp

theorem tick_ok {e : SE} (z : Nz e) {i j : Nat} {r1 r2 : Bool} {H : IHeap} (h : HasP e i j r1 r2 H) : ICalls Pr 15 [endP e i j] H (TickR (goodS e) (tickL e) H) := by
  refine icalls_spine (by kernel_rfl) fun r hm => ?_
  obtain ⟨R, hR⟩ : ∃ R, R = slotR H.length (TickR (goodS e) (tickL e) H) := ⟨_, rfl⟩
  obtain ⟨B, hB⟩ : ∃ B, B = H.map (mvO shU) := ⟨_, rfl⟩
  rw [← hR, ← hB, sp15]
  have g1 : B[i]? = some (.cells (outC e.outs) r1) := by rw [hB]; exact base_plain h.out (ground_outC _)
  have g2 : B[j]? = some (.cells (inC e.ins) r2) := by rw [hB]; exact base_plain h.inn (ground_inC _)
  have gH : ∀ l, HasP e (i + 64) (j + 64) r1 r2 (pad 64 l B) := fun l => ⟨by rw [pad_high]; exact g1, by rw [pad_high]; exact g2, by have := h.ne; omega⟩
  have hon := z.on
  refine iwrl_seg (hs := []) (sc := scTick e i j r1 r2) (rf := true) mixed (scTick_ok z) 40 [1, 2, 3, 4, 5] A15 _ _ (by kernel_rfl) ?_
  refine Eq.mp (α := (([Value.agg ⟨[Value.int IntKind.i64 e.life, Value.int IntKind.i64 e.peer, Value.int IntKind.i64 e.phase, Value.int IntKind.i64 e.base, Value.slice (some ⟨(i + 64), 0, some 4⟩) e.outs.length e.outs.length, Value.int IntKind.i64 e.want, Value.slice (some ⟨(j + 64), 0, some 4⟩) e.ins.length e.ins.length]⟩] : List Value) = ([endP e (i + 64) (j + 64)] : List Value) ∧ (HasP e (i + 64) (j + 64) r1 r2 (Ide.pad 64 [.cells [Value.int IntKind.i64 e.life, Value.int IntKind.i64 e.peer, Value.int IntKind.i64 e.phase, Value.int IntKind.i64 e.base, Value.slice (some ⟨(i + 64), 0, some 4⟩) e.outs.length e.outs.length, Value.int IntKind.i64 e.want, Value.slice (some ⟨(j + 64), 0, some 4⟩) e.ins.length e.ins.length] true] B)) ∧ (Ide.bcase (!(goodS e))
 (R (IEnd.ret (Value.tuple ⟨[Value.slice none 0 0, Value.int IntKind.i64 2]⟩)) (Ide.pad 64 [.cells [Value.int IntKind.i64 e.life, Value.int IntKind.i64 e.peer, Value.int IntKind.i64 e.phase, Value.int IntKind.i64 e.base, Value.slice (some ⟨(i + 64), 0, some 4⟩) e.outs.length e.outs.length, Value.int IntKind.i64 e.want, Value.slice (some ⟨(j + 64), 0, some 4⟩) e.ins.length e.ins.length] true] B))
 (Ide.bcase (e.phase != 3)
 (([Value.agg ⟨[Value.int IntKind.i64 e.life, Value.int IntKind.i64 e.peer, Value.int IntKind.i64 e.phase, Value.int IntKind.i64 e.base, Value.slice (some ⟨(i + 64), 0, some 4⟩) e.outs.length e.outs.length, Value.int IntKind.i64 e.want, Value.slice (some ⟨(j + 64), 0, some 4⟩) e.ins.length e.ins.length]⟩] : List Value) = ([endP e (i + 64) (j + 64)] : List Value) ∧ (HasP e (i + 64) (j + 64) r1 r2 (Ide.pad 64 [.cells [Value.int IntKind.i64 e.life, Value.int IntKind.i64 e.peer, Value.int IntKind.i64 e.phase, Value.int IntKind.i64 e.base, Value.slice (some ⟨(i + 64), 0, some 4⟩) e.outs.length e.outs.length, Value.int IntKind.i64 e.want, Value.slice (some ⟨(j + 64), 0, some 4⟩) e.ins.length e.ins.length] true] B)) ∧ (R (IEnd.ret (Value.tuple ⟨[Value.slice (some ⟨1, 0, some 15⟩) 1 1, Value.int IntKind.i64 0]⟩)) (Ide.pad 64 [.cells [Value.int IntKind.i64 e.life, Value.int IntKind.i64 e.peer, Value.int IntKind.i64 e.phase, Value.int IntKind.i64 e.base, Value.slice (some ⟨(i + 64), 0, some 4⟩) e.outs.length e.outs.length, Value.int IntKind.i64 e.want, Value.slice (some ⟨(j + 64), 0, some 4⟩) e.ins.length e.ins.length] true, .cells [Value.int IntKind.i64 ((greetS e).kind), Value.int IntKind.i64 ((greetS e).src), Value.int IntKind.i64 ((greetS e).dst), Value.int IntKind.i64 ((greetS e).num), Value.string (greetS e).text, Value.int IntKind.i64 ((greetS e).ack), Value.int IntKind.i64 ((greetS e).held)] true] B)))
 (IWRL r none Pr 39 (.block 0 (.loop L15) :: C15) (bodyS Pr (ressOf Pr 15) R) [(1, Value.pointer (some ⟨0, 0, none⟩)), (2, Value.slice none 0 0), (3, Value.int IntKind.i64 0), (4, Value.slice none 0 0), (5, Value.int IntKind.i64 0)] (Ide.pad 64 [.cells [Value.int IntKind.i64 e.life, Value.int IntKind.i64 e.peer, Value.int IntKind.i64 e.phase, Value.int IntKind.i64 e.base, Value.slice (some ⟨(i + 64), 0, some 4⟩) e.outs.length e.outs.length, Value.int IntKind.i64 e.want, Value.slice (some ⟨(j + 64), 0, some 4⟩) e.ins.length e.ins.length] true] B)))))) (by kernel_rfl) ?_
  refine ⟨rfl, gH _, bcI (fun hg => ?_) fun hg => bcI (fun hp => ⟨rfl, gH _, ?_⟩) fun hp => ?_⟩
  · rw [hR, hB]
    refine slot_plain _ rfl ?_
    unfold TickR
    rw [if_neg (by simpa using hg)]
    exact ⟨rfl, rfl⟩
  · have hp : ¬ e.phase = 3 := by simpa using hp
    rw [hR, hB]
    refine slot_news _ (.tuple ⟨[pksV (tickL e) H.length, .int .i64 0]⟩) [1] [.cells (pksC (tickL e)) true] (by decide) rfl (newsAt_plain (by unfold tickL; rw [if_neg hp]; rfl) (ground_pksC _) trivial) ?_ ?_
    · unfold tickL
      rw [if_neg hp]
      exact Less.tuple ⟨Less.odd _ _ 7 1, Less.refl _, trivial⟩
    · unfold TickR
      rw [if_pos (by simpa using hg)]
      exact ⟨_, _, rfl, rfl, by simp, by omega⟩
  · have hp : e.phase = 3 := by simpa using hp
    refine IWRL.move (by simp) (Move.own hB hm (mp := [(0, 0)]) (l2 := [.cells (endW64 e (i + 64) (j + 64)) true, .cells (pksC []) true]) rfl ⟨.inr (LessO.same (by kernel_rfl)), trivial⟩
      (env2 := [(1, ptrTo 0 0), (2, .slice none 0 0), (3, .int .i64 0), (4, pksV [] 1), (5, .int .i64 (((([] : List (ByteArray × Bool)).length : Nat)) : Int))]) ⟨⟨rfl, Less.same (by kernel_rfl)⟩, ⟨rfl, Less.refl _⟩, ⟨rfl, Less.refl _⟩, ⟨rfl, Less.nil _ _ _⟩, ⟨rfl, Less.refl _⟩, trivial⟩) ?_
    refine iwrl_loop (LWQ.weaken (tick_l z hB hm g1 gH _ e.outs [] [] rfl (Nat.le_refl _) fun k => ?_) (lk_keep [1, 4, 5] [(1, ptrTo 0 0), (2, .slice none 0 0), (3, .int .i64 0), (4, pksV [] 1), (5, .int .i64 (((([] : List (ByteArray × Bool)).length : Nat)) : Int))]))
    have hk := tick_len e (flyS e) e.outs 0
    show IWRL r none Pr 39 C15 (bodyS Pr (ressOf Pr 15) R) _ _
    obtain ⟨acc, hacc⟩ : ∃ acc, acc = [] ++ tickP e (flyS e) ([] : List (ByteArray × Bool)).length e.outs := ⟨_, rfl⟩
    rw [← hacc]
    refine iwrl_last (hs := []) (sc := scTick e i j r1 r2) (rf := true) mixed (scTick_ok z) 40 C15 (by kernel_rfl) ?_
    refine Eq.mp (α := (([Value.agg ⟨[Value.int IntKind.i64 e.life, Value.int IntKind.i64 e.peer, Value.int IntKind.i64 e.phase, Value.int IntKind.i64 e.base, Value.slice (some ⟨(i + 64), 0, some 4⟩) e.outs.length e.outs.length, Value.int IntKind.i64 e.want, Value.slice (some ⟨(j + 64), 0, some 4⟩) e.ins.length e.ins.length]⟩] : List Value) = ([endP e (i + 64) (j + 64)] : List Value) ∧ (HasP e (i + 64) (j + 64) r1 r2 (Ide.pad 64 [.cells [Value.int IntKind.i64 e.life, Value.int IntKind.i64 e.peer, Value.int IntKind.i64 e.phase, Value.int IntKind.i64 e.base, Value.slice (some ⟨(i + 64), 0, some 4⟩) e.outs.length e.outs.length, Value.int IntKind.i64 e.want, Value.slice (some ⟨(j + 64), 0, some 4⟩) e.ins.length e.ins.length] true, .cells (pksC acc) true] B)) ∧ (((acc.length + 1) * 64 ≤ 70368744177664 ∧ acc.length + 1 ≤ 70368744177664) ∧ (0 + acc.length * 7 ≤ List.length ((pksC acc) : List Value) ∧ (0 + 1 * 7 ≤ List.length ([Value.int IntKind.i64 ((reportS e).kind), Value.int IntKind.i64 ((reportS e).src), Value.int IntKind.i64 ((reportS e).dst), Value.int IntKind.i64 ((reportS e).num), Value.string (reportS e).text, Value.int IntKind.i64 ((reportS e).ack), Value.int IntKind.i64 ((reportS e).held)] : List Value) ∧ ((7 = 7 ∧ true = true) ∧ acc.length < (acc.length + 1) ∧ (R (IEnd.ret (Value.tuple ⟨[Value.slice (some ⟨3, 0, some 14⟩) (acc.length + 1) (acc.length + 1), Value.int IntKind.i64 0]⟩)) (Ide.pad 64 [.cells [Value.int IntKind.i64 e.life, Value.int IntKind.i64 e.peer, Value.int IntKind.i64 e.phase, Value.int IntKind.i64 e.base, Value.slice (some ⟨(i + 64), 0, some 4⟩) e.outs.length e.outs.length, Value.int IntKind.i64 e.want, Value.slice (some ⟨(j + 64), 0, some 4⟩) e.ins.length e.ins.length] true, .dead, .cells [Value.int IntKind.i64 ((reportS e).kind), Value.int IntKind.i64 ((reportS e).src), Value.int IntKind.i64 ((reportS e).dst), Value.int IntKind.i64 ((reportS e).num), Value.string (reportS e).text, Value.int IntKind.i64 ((reportS e).ack), Value.int IntKind.i64 ((reportS e).held)] true, .cells ((List.take (acc.length * 7) (List.drop 0 (pksC acc)) : List Value) ++ [Value.int IntKind.i64 ((reportS e).kind), Value.int IntKind.i64 ((reportS e).src), Value.int IntKind.i64 ((reportS e).dst), Value.int IntKind.i64 ((reportS e).num), Value.string (reportS e).text, Value.int IntKind.i64 ((reportS e).ack), Value.int IntKind.i64 ((reportS e).held)]) true] B)))))))) (by kernel_rfl) ?_
    have hal : acc.length ≤ e.outs.length := by rw [hacc]; exact hk
    have ht : tickL e = acc ++ [reportS e] := by unfold tickL; rw [if_pos hp, hacc]; rfl
    refine ⟨rfl, gH _, ⟨by omega, by omega⟩, by rw [pksC_len]; omega, Nat.le_refl _, ⟨rfl, rfl⟩, by omega, ?_⟩
    rw [hR, hB, pksC_all]
    refine slot_news _ (.tuple ⟨[pksV (tickL e) H.length, .int .i64 0]⟩) [3] [.cells (pksC (tickL e)) true] (by decide) rfl (newsAt_plain (by rw [ht, pksC_app]; rfl) (ground_pksC _) trivial) ?_ ?_
    · refine Less.tuple ⟨?_, Less.refl _, trivial⟩
      unfold pksV
      rw [ht, List.length_append]
      exact Less.same rfl
    · unfold TickR
      rw [if_pos (by simpa using hg)]
      exact ⟨_, _, rfl, rfl, by simp, by omega⟩

end Go.Proofs.Ytoikiogaiikheaa.Sess

/- Ends that are being changed, over slots. -/
set_option linter.unusedVariables false
set_option linter.unusedSimpArgs false
set_option maxRecDepth 10000
namespace Go.Proofs.Ytoikiogaiikheaa.Sess
open Go Go.RowKit Ide Go.Proofs

/-- The cells of an end that is being changed; its sent messages begin at a place within their block. -/
def xwo (e : SE) (i o j m : Nat) : List Value := [.int .i64 e.life, .int .i64 e.peer, .int .i64 e.phase, .int .i64 e.base, .slice (some ⟨i, o, some 4⟩) e.outs.length e.outs.length, .int .i64 e.want, .slice (some ⟨j, 0, some 4⟩) e.ins.length e.ins.length, .map (some m)]
def xw (e : SE) (i j m : Nat) : List Value := xwo e i 0 j m
theorem mv_xwo {σ : Nat → Option Nat} {e : SE} {i o j m i' j' m' : Nat} (h1 : σ i = some i') (h2 : σ j = some j') (h3 : σ m = some m') : mvV.goL σ (xwo e i o j m) = xwo e i' o j' m' := by
  simp only [xwo, mvV, mvV.goL, h1, h2, h3]
theorem mv_xw {σ : Nat → Option Nat} {e : SE} {i j m i' j' m' : Nat} (h1 : σ i = some i') (h2 : σ j = some j') (h3 : σ m = some m') : mvV.goL σ (xw e i j m) = xw e i' j' m' := mv_xwo h1 h2 h3
/-- An end that is being changed is there. -/
structure XAt (e : SE) (f : Int → Option ByteArray) (k i : Nat) (po : List (ByteArray × Bool)) (j m : Nat) (r : Bool) (H : IHeap) : Prop where
  x : H[k]? = some (.cells (xwo e i (2 * po.length) j m) true)
  out : H[i]? = some (.cells (outC (po ++ e.outs)) r)
  map : ∃ es c, H[m]? = some (.map es c) ∧ Look es f
theorem XAt.base {e : SE} {f : Int → Option ByteArray} {k i j m : Nat} {po : List (ByteArray × Bool)} {r : Bool} {H : IHeap} (h : XAt e f k i po j m r H) :
    (H.map (mvO shU))[k]? = some (.cells (xwo e (i + 64) (2 * po.length) (j + 64) (m + 64)) true) ∧ (H.map (mvO shU))[i]? = some (.cells (outC (po ++ e.outs)) r) ∧ ∃ es c, (H.map (mvO shU))[m]? = some (.map es c) ∧ Look es f := by
  obtain ⟨h1, h2, es, c, h3, L⟩ := h
  refine ⟨?_, base_plain h2 (ground_outC _), es, c, base_plain h3 (look_plain L c), L⟩
  rw [base_get h1]
  have := mv_xwo (σ := shU) (e := e) (i := i) (o := 2 * po.length) (j := j) (m := m) rfl rfl rfl
  simp only [mvO, this]
theorem XAt.of {e : SE} {f : Int → Option ByteArray} {k i j m : Nat} {po : List (ByteArray × Bool)} {r : Bool} {B : IHeap} (l : List IObj) (g1 : B[k]? = some (.cells (xwo e (i + 64) (2 * po.length) (j + 64) (m + 64)) true)) (g2 : B[i]? = some (.cells (outC (po ++ e.outs)) r)) {es : List MapEntry} {c : Nat} (g3 : B[m]? = some (.map es c)) (L : Look es f) :
    XAt e f (k + 64) (i + 64) po (j + 64) (m + 64) r (pad 64 l B) := ⟨by rw [pad_high]; exact g1, by rw [pad_high]; exact g2, es, c, by rw [pad_high]; exact g3, L⟩

def fb (f : Int → Option ByteArray) (want j : Int) : Bool := (f (IntKind.wrap .i64 (IntKind.wrap .i64 (want + 1) + j))).isSome
def bitsF (f : Int → Option ByteArray) (want : Int) : Int := (if fb f want 0 = true then 1 else 0) + (if fb f want 1 = true then 2 else 0) + (if fb f want 2 = true then 4 else 0)

section
variable {e : SE} {f : Int → Option ByteArray} {k i j m : Nat} {po : List (ByteArray × Bool)} {r : Bool} {H : IHeap}

theorem xbits_ok (h : XAt e f k i po j m r H) : ICalls Pr 71 [.pointer (some ⟨k, 0, none⟩)] H (fun r H' => r = .ret (.int .i64 (bitsF f e.want)) ∧ H' = H) := by
  refine icalls_sy (hs := [(14, .val (fun _ => Value.map (some (m + 64)))), (19, .val (fun _ => Value.int IntKind.i64 e.want))]) 40 mixed sc0_ok (by kernel_rfl) (by kernel_rfl) ?_
  obtain ⟨R, hR⟩ : ∃ R, R = slotR H.length (fun r H' => r = .ret (.int .i64 (bitsF f e.want)) ∧ H' = H) := ⟨_, rfl⟩
  obtain ⟨B, hB⟩ : ∃ B, B = H.map (mvO shU) := ⟨_, rfl⟩
  obtain ⟨g1, g2, es, c, g3, L⟩ := h.base
  rw [← hB] at g1 g2 g3
  rw [← hR, ← hB]
  refine Eq.mp (α := (Ide.cellAt B k 7 = some (Value.map (some (m + 64))) ∧ (Ide.cellAt B k 5 = some (Value.int IntKind.i64 e.want) ∧ (∃ (es1 : List MapEntry) (c2 : Nat), (B : IHeap)[m]? = some (.map es1 c2) ∧ (true = true ∧ ∃ r3 : Option Value, Ide.findV Pr 3 (Value.int IntKind.i64 (IntKind.wrap .i64 ((IntKind.wrap .i64 (e.want + 1)) + 0))) es1 = some r3 ∧ Ide.optS r3 (fun t4 => ((0 : Int) ≤ 0 ∧ (Ide.cellAt B k 7 = some (Value.map (some (m + 64))) ∧ (Ide.cellAt B k 5 = some (Value.int IntKind.i64 e.want) ∧ (∃ (es5 : List MapEntry) (c6 : Nat), (B : IHeap)[m]? = some (.map es5 c6) ∧ (true = true ∧ ∃ r7 : Option Value, Ide.findV Pr 3 (Value.int IntKind.i64 (IntKind.wrap .i64 ((IntKind.wrap .i64 (e.want + 1)) + 1))) es5 = some r7 ∧ Ide.optS r7 (fun t8 => ((0 : Int) ≤ 1 ∧ (Ide.cellAt B k 7 = some (Value.map (some (m + 64))) ∧ (Ide.cellAt B k 5 = some (Value.int IntKind.i64 e.want) ∧ (∃ (es9 : List MapEntry) (c10 : Nat), (B : IHeap)[m]? = some (.map es9 c10) ∧ (true = true ∧ ∃ r11 : Option Value, Ide.findV Pr 3 (Value.int IntKind.i64 (IntKind.wrap .i64 ((IntKind.wrap .i64 (e.want + 1)) + 2))) es9 = some r11 ∧ Ide.optS r11 (fun t12 => ((0 : Int) ≤ 2 ∧ (R (IEnd.ret (Value.int IntKind.i64 7)) (Ide.pad 64 [] B)))) (R (IEnd.ret (Value.int IntKind.i64 3)) (Ide.pad 64 [] B)))))))) (Ide.cellAt B k 7 = some (Value.map (some (m + 64))) ∧ (Ide.cellAt B k 5 = some (Value.int IntKind.i64 e.want) ∧ (∃ (es13 : List MapEntry) (c14 : Nat), (B : IHeap)[m]? = some (.map es13 c14) ∧ (true = true ∧ ∃ r15 : Option Value, Ide.findV Pr 3 (Value.int IntKind.i64 (IntKind.wrap .i64 ((IntKind.wrap .i64 (e.want + 1)) + 2))) es13 = some r15 ∧ Ide.optS r15 (fun t16 => ((0 : Int) ≤ 2 ∧ (R (IEnd.ret (Value.int IntKind.i64 5)) (Ide.pad 64 [] B)))) (R (IEnd.ret (Value.int IntKind.i64 1)) (Ide.pad 64 [] B)))))))))))) (Ide.cellAt B k 7 = some (Value.map (some (m + 64))) ∧ (Ide.cellAt B k 5 = some (Value.int IntKind.i64 e.want) ∧ (∃ (es17 : List MapEntry) (c18 : Nat), (B : IHeap)[m]? = some (.map es17 c18) ∧ (true = true ∧ ∃ r19 : Option Value, Ide.findV Pr 3 (Value.int IntKind.i64 (IntKind.wrap .i64 ((IntKind.wrap .i64 (e.want + 1)) + 1))) es17 = some r19 ∧ Ide.optS r19 (fun t20 => ((0 : Int) ≤ 1 ∧ (Ide.cellAt B k 7 = some (Value.map (some (m + 64))) ∧ (Ide.cellAt B k 5 = some (Value.int IntKind.i64 e.want) ∧ (∃ (es21 : List MapEntry) (c22 : Nat), (B : IHeap)[m]? = some (.map es21 c22) ∧ (true = true ∧ ∃ r23 : Option Value, Ide.findV Pr 3 (Value.int IntKind.i64 (IntKind.wrap .i64 ((IntKind.wrap .i64 (e.want + 1)) + 2))) es21 = some r23 ∧ Ide.optS r23 (fun t24 => ((0 : Int) ≤ 2 ∧ (R (IEnd.ret (Value.int IntKind.i64 6)) (Ide.pad 64 [] B)))) (R (IEnd.ret (Value.int IntKind.i64 2)) (Ide.pad 64 [] B)))))))) (Ide.cellAt B k 7 = some (Value.map (some (m + 64))) ∧ (Ide.cellAt B k 5 = some (Value.int IntKind.i64 e.want) ∧ (∃ (es25 : List MapEntry) (c26 : Nat), (B : IHeap)[m]? = some (.map es25 c26) ∧ (true = true ∧ ∃ r27 : Option Value, Ide.findV Pr 3 (Value.int IntKind.i64 (IntKind.wrap .i64 ((IntKind.wrap .i64 (e.want + 1)) + 2))) es25 = some r27 ∧ Ide.optS r27 (fun t28 => ((0 : Int) ≤ 2 ∧ (R (IEnd.ret (Value.int IntKind.i64 4)) (Ide.pad 64 [] B)))) (R (IEnd.ret (Value.int IntKind.i64 0)) (Ide.pad 64 [] B))))))))))))))) (by kernel_rfl) ?_
  have c5 : cellAt B k 5 = some (.int .i64 e.want) := cellAt_of g1 rfl
  have c7 : cellAt B k 7 = some (.map (some (m + 64))) := cellAt_of g1 rfl
  have e1 : bitsF f e.want = (if fb f e.want 0 = true then 1 else 0) + (if fb f e.want 1 = true then 2 else 0) + (if fb f e.want 2 = true then 4 else 0) := rfl
  have s0 : ∀ j b, (f (IntKind.wrap .i64 (IntKind.wrap .i64 (e.want + 1) + j))) = some b → fb f e.want j = true := fun j b h => by unfold fb; rw [h]; rfl
  have n0 : ∀ j, (f (IntKind.wrap .i64 (IntKind.wrap .i64 (e.want + 1) + j))) = none → fb f e.want j = false := fun j h => by unfold fb; rw [h]; rfl
  have lk : ∀ (n : Int) {Y : ByteArray → Prop} {N : Prop}, (∀ s, f n = some s → Y s) → (f n = none → N) → cellAt B k 7 = some (.map (some (m + 64))) ∧ cellAt B k 5 = some (.int .i64 e.want) ∧ ∃ (es : List MapEntry) (c : Nat), B[m]? = some (.map es c) ∧ true = true ∧ ∃ r : Option Value, findV Pr 3 (.int .i64 n) es = some r ∧ optS r Y N :=
    fun n Y N h1 h2 => ⟨c7, c5, es, c, g3, look_opt L n h1 h2⟩
  have leaf : ∀ n : Int, bitsF f e.want = n → R (.ret (.int .i64 n)) (pad 64 [] B) := fun n hn => by rw [hR, hB]; exact slot_plain _ rfl ⟨by rw [hn], rfl⟩
  refine lk _ (fun s h0 => ⟨by decide, lk _ (fun s h1 => ⟨by decide, lk _ (fun s h2 => ⟨by decide, leaf _ ?_⟩) (fun h2 => leaf _ ?_)⟩) (fun h1 => lk _ (fun s h2 => ⟨by decide, leaf _ ?_⟩) (fun h2 => leaf _ ?_))⟩) (fun h0 => lk _ (fun s h1 => ⟨by decide, lk _ (fun s h2 => ⟨by decide, leaf _ ?_⟩) (fun h2 => leaf _ ?_)⟩) (fun h1 => lk _ (fun s h2 => ⟨by decide, leaf _ ?_⟩) (fun h2 => leaf _ ?_)))
  all_goals ((first | (replace h0 := s0 _ _ h0) | (replace h0 := n0 _ h0)); (first | (replace h1 := s0 _ _ h1) | (replace h1 := n0 _ h1)); (first | (replace h2 := s0 _ _ h2) | (replace h2 := n0 _ h2)); rw [e1, h0, h1, h2]; rfl)

theorem xhello_ok (h : XAt e f k i po j m r H) : ICalls Pr 46 [.pointer (some ⟨k, 0, none⟩)] H (fun r H' => r = .ret (pktV (greetS e)) ∧ H' = H) := by
  refine icalls_sy (hs := [(7, .val (fun _ => Value.int IntKind.i64 e.life)), (12, .val (fun _ => Value.int IntKind.i64 e.peer))]) 40 mixed sc0_ok (by kernel_rfl) (by kernel_rfl) ?_
  obtain ⟨R, hR⟩ : ∃ R, R = slotR H.length (fun r H' => r = .ret (pktV (greetS e)) ∧ H' = H) := ⟨_, rfl⟩
  obtain ⟨B, hB⟩ : ∃ B, B = H.map (mvO shU) := ⟨_, rfl⟩
  obtain ⟨g1, g2, es, c, g3, L⟩ := h.base
  rw [← hB] at g1 g2 g3
  rw [← hR, ← hB]
  refine Eq.mp (α := (Ide.cellAt B k 0 = some (Value.int IntKind.i64 e.life) ∧ (Ide.cellAt B k 1 = some (Value.int IntKind.i64 e.peer) ∧ (R (IEnd.ret (Value.agg ⟨[Value.int IntKind.i64 1, Value.int IntKind.i64 e.life, Value.int IntKind.i64 e.peer, Value.int IntKind.i64 0, Value.string (ByteArray.mk ⟨[]⟩), Value.int IntKind.i64 0, Value.int IntKind.i64 0]⟩)) (Ide.pad 64 [.cells [Value.int IntKind.i64 1, Value.int IntKind.i64 e.life, Value.int IntKind.i64 e.peer, Value.int IntKind.i64 0, Value.string (ByteArray.mk ⟨[]⟩), Value.int IntKind.i64 0, Value.int IntKind.i64 0] true] B))))) (by kernel_rfl) ?_
  refine ⟨cellAt_of g1 rfl, cellAt_of g1 rfl, ?_⟩
  rw [hR, hB]
  exact slot_plain _ rfl ⟨rfl, rfl⟩

def reportX (f : Int → Option ByteArray) (e : SE) : Pkt := ⟨3, e.life, e.peer, 0, noText, e.want, bitsF f e.want⟩
def dataX (f : Int → Option ByteArray) (e : SE) (i : Int) (text : ByteArray) : Pkt := ⟨2, e.life, e.peer, IntKind.wrap .i64 (e.base + i), text, e.want, bitsF f e.want⟩

theorem xreport_ok (h : XAt e f k i po j m r H) : ICalls Pr 49 [.pointer (some ⟨k, 0, none⟩)] H (fun r H' => r = .ret (pktV (reportX f e)) ∧ H' = H) := by
  refine icalls_sy (hs := [(7, .val (fun _ => Value.int IntKind.i64 e.life)), (12, .val (fun _ => Value.int IntKind.i64 e.peer)), (17, .val (fun _ => Value.int IntKind.i64 e.want))]) (sc := scC 71 (cR [.pointer (some ⟨k + 64, 0, none⟩)] (XAt e f (k + 64) (i + 64) po (j + 64) (m + 64) r) (.int .i64 (bitsF f e.want))) sc0) 40 mixed (scC_ok (cR_ok fun H h => xbits_ok h) sc0_ok) (by kernel_rfl) (by kernel_rfl) ?_
  obtain ⟨R, hR⟩ : ∃ R, R = slotR H.length (fun r H' => r = .ret (pktV (reportX f e)) ∧ H' = H) := ⟨_, rfl⟩
  obtain ⟨B, hB⟩ : ∃ B, B = H.map (mvO shU) := ⟨_, rfl⟩
  obtain ⟨g1, g2, es, c, g3, L⟩ := h.base
  rw [← hB] at g1 g2 g3
  rw [← hR, ← hB]
  refine Eq.mp (α := (Ide.cellAt B k 0 = some (Value.int IntKind.i64 e.life) ∧ (Ide.cellAt B k 1 = some (Value.int IntKind.i64 e.peer) ∧ (Ide.cellAt B k 5 = some (Value.int IntKind.i64 e.want) ∧ (([Value.pointer (some ⟨(k + 64), 0, none⟩)] : List Value) = ([Value.pointer (some ⟨(k + 64), 0, none⟩)] : List Value) ∧ (XAt e f (k + 64) (i + 64) po (j + 64) (m + 64) r (Ide.pad 64 [.cells [Value.int IntKind.i64 0, Value.int IntKind.i64 0, Value.int IntKind.i64 0, Value.int IntKind.i64 0, Value.string (ByteArray.mk ⟨[]⟩), Value.int IntKind.i64 0, Value.int IntKind.i64 0] true] B)) ∧ (Ide.cellAt B k 5 = some (Value.int IntKind.i64 e.want) ∧ (Ide.cellAt B k 1 = some (Value.int IntKind.i64 e.peer) ∧ (Ide.cellAt B k 0 = some (Value.int IntKind.i64 e.life) ∧ (R (IEnd.ret (Value.agg ⟨[Value.int IntKind.i64 3, Value.int IntKind.i64 e.life, Value.int IntKind.i64 e.peer, Value.int IntKind.i64 0, Value.string (ByteArray.mk ⟨[]⟩), Value.int IntKind.i64 e.want, Value.int IntKind.i64 (bitsF f e.want)]⟩)) (Ide.pad 64 [.cells [Value.int IntKind.i64 3, Value.int IntKind.i64 e.life, Value.int IntKind.i64 e.peer, Value.int IntKind.i64 0, Value.string (ByteArray.mk ⟨[]⟩), Value.int IntKind.i64 e.want, Value.int IntKind.i64 (bitsF f e.want)] true] B)))))))))) (by kernel_rfl) ?_
  refine ⟨cellAt_of g1 rfl, cellAt_of g1 rfl, cellAt_of g1 rfl, rfl, .of _ g1 g2 g3 L, cellAt_of g1 rfl, cellAt_of g1 rfl, cellAt_of g1 rfl, ?_⟩
  rw [hR, hB]
  exact slot_plain _ rfl ⟨rfl, rfl⟩

theorem outC_text {l : List (ByteArray × Bool)} {n : Int} (hn : 0 ≤ n ∧ n < l.length) : (outC l)[0 + Int.toNat n * 2 + 0]? = some (.string (textAt l n)) := by
  have hlt : n.toNat < l.length := by omega
  have hp : l = l.take n.toNat ++ l[n.toNat] :: l.drop (n.toNat + 1) := by rw [List.getElem_cons_drop, List.take_append_drop]
  have hl : (l.take n.toNat).length = n.toNat := by simp; omega
  have e1 : textAt l n = l[n.toNat].1 := by unfold textAt; rw [List.getElem?_eq_getElem hlt]
  have h := (outC_get (l.take n.toNat) l[n.toNat] (l.drop (n.toNat + 1))).1
  rw [← hp, hl] at h
  rw [e1, show 0 + Int.toNat n * 2 + 0 = 2 * n.toNat by omega]
  exact h

theorem outC_textO {n : Int} (hn : 0 ≤ n ∧ n < e.outs.length) : (outC (po ++ e.outs))[2 * po.length + Int.toNat n * 2 + 0]? = some (.string (textAt e.outs n)) := by
  have h := outC_text (l := po ++ e.outs) (n := ((po.length : Nat) : Int) + n) ⟨by omega, by rw [List.length_append]; omega⟩
  have e1 : textAt (po ++ e.outs) (((po.length : Nat) : Int) + n) = textAt e.outs n := by
    unfold textAt
    rw [show (((po.length : Nat) : Int) + n).toNat = po.length + n.toNat by omega, List.getElem?_append_right (by omega), Nat.add_sub_cancel_left]
  rw [e1, show 0 + Int.toNat (((po.length : Nat) : Int) + n) * 2 + 0 = 2 * po.length + Int.toNat n * 2 + 0 by omega] at h
  exact h
theorem xdata_ok {n : Int} (hn : 0 ≤ n ∧ n < e.outs.length) (h : XAt e f k i po j m r H) : ICalls Pr 48 [.pointer (some ⟨k, 0, none⟩), .int .i64 n] H (fun r H' => r = .ret (pktV (dataX f e n (textAt e.outs n))) ∧ H' = H) := by
  refine icalls_sy (hs := [(12, .val (fun _ => Value.int IntKind.i64 e.base)), (19, .val (fun _ => Value.slice (some ⟨(i + 64), (2 * po.length), some 4⟩) e.outs.length e.outs.length))]) (sc := scC 49 (cR [.pointer (some ⟨k + 64, 0, none⟩)] (XAt e f (k + 64) (i + 64) po (j + 64) (m + 64) r) (pktV (reportX f e))) sc0) 40 mixed (scC_ok (cR_ok fun H h => xreport_ok h) sc0_ok) (by kernel_rfl) (by kernel_rfl) ?_
  obtain ⟨R, hR⟩ : ∃ R, R = slotR H.length (fun r H' => r = .ret (pktV (dataX f e n (textAt e.outs n))) ∧ H' = H) := ⟨_, rfl⟩
  obtain ⟨B, hB⟩ : ∃ B, B = H.map (mvO shU) := ⟨_, rfl⟩
  obtain ⟨g1, g2, es, c, g3, L⟩ := h.base
  rw [← hB] at g1 g2 g3
  rw [← hR, ← hB]
  refine Eq.mp (α := (([Value.pointer (some ⟨(k + 64), 0, none⟩)] : List Value) = ([Value.pointer (some ⟨(k + 64), 0, none⟩)] : List Value) ∧ (XAt e f (k + 64) (i + 64) po (j + 64) (m + 64) r (Ide.pad 64 [.cells [Value.int IntKind.i64 0, Value.int IntKind.i64 0, Value.int IntKind.i64 0, Value.int IntKind.i64 0, Value.string (ByteArray.mk ⟨[]⟩), Value.int IntKind.i64 0, Value.int IntKind.i64 0] true] B)) ∧ (Ide.cellAt B k 3 = some (Value.int IntKind.i64 e.base) ∧ (Ide.cellAt B k 4 = some (Value.slice (some ⟨(i + 64), (2 * po.length), some 4⟩) e.outs.length e.outs.length) ∧ (0 ≤ n ∧ n < ((e.outs.length : Nat) : Int) ∧ (∃ s1 : ByteArray, Ide.cellAt B i (((2 * po.length) + Int.toNat n * 2) + 0) = some (Value.string s1) ∧ (Ide.cellAt B i (((2 * po.length) + Int.toNat n * 2) + 0) = some (Value.string s1) ∧ (Ide.cellAt B k 4 = some (Value.slice (some ⟨(i + 64), (2 * po.length), some 4⟩) e.outs.length e.outs.length) ∧ (Ide.cellAt B k 3 = some (Value.int IntKind.i64 e.base) ∧ (Ide.cellAt B i (((2 * po.length) + Int.toNat n * 2) + 0) = some (Value.string s1) ∧ (Ide.cellAt B k 4 = some (Value.slice (some ⟨(i + 64), (2 * po.length), some 4⟩) e.outs.length e.outs.length) ∧ (R (IEnd.ret (Value.agg ⟨[Value.int IntKind.i64 2, Value.int IntKind.i64 ((reportX f e).src), Value.int IntKind.i64 ((reportX f e).dst), Value.int IntKind.i64 (IntKind.wrap .i64 (e.base + n)), Value.string s1, Value.int IntKind.i64 ((reportX f e).ack), Value.int IntKind.i64 ((reportX f e).held)]⟩)) (Ide.pad 64 [.cells [Value.int IntKind.i64 2, Value.int IntKind.i64 ((reportX f e).src), Value.int IntKind.i64 ((reportX f e).dst), Value.int IntKind.i64 (IntKind.wrap .i64 (e.base + n)), Value.string s1, Value.int IntKind.i64 ((reportX f e).ack), Value.int IntKind.i64 ((reportX f e).held)] true, .cells [Value.int IntKind.i64 2, Value.int IntKind.i64 ((reportX f e).src), Value.int IntKind.i64 ((reportX f e).dst), Value.int IntKind.i64 (IntKind.wrap .i64 (e.base + n)), Value.string s1, Value.int IntKind.i64 ((reportX f e).ack), Value.int IntKind.i64 ((reportX f e).held)] true] B))))))))))))) (by kernel_rfl) ?_
  have ct : cellAt B i (2 * po.length + Int.toNat n * 2 + 0) = some (.string (textAt e.outs n)) := cellAt_of g2 (outC_textO hn)
  refine ⟨rfl, .of _ g1 g2 g3 L, cellAt_of g1 rfl, cellAt_of g1 rfl, hn.1, hn.2, textAt e.outs n, ct, ct, cellAt_of g1 rfl, cellAt_of g1 rfl, ct, cellAt_of g1 rfl, ?_⟩
  rw [hR, hB]
  exact slot_plain _ rfl ⟨rfl, rfl⟩

def sentO (e : SE) (i o : Nat) : Value := .slice (some ⟨i, o, some 4⟩) (flyS e).toNat (flyS e).toNat
def sentV (e : SE) (i : Nat) : Value := sentO e i 0
theorem less_exq (id off sz n : Nat) : Less (.slice (some ⟨id, off, some (exq sz n)⟩) n n) (.slice (some ⟨id, off, some (2 * sz)⟩) n n) := by
  unfold exq
  cases Nat.beq n 0
  · exact Less.odd _ _ sz _
  · exact Less.refl _
theorem xsent_ok (h : XAt e f k i po j m r H) : ICalls Pr 43 [.pointer (some ⟨k, 0, none⟩)] H (fun r H' => r = .ret (sentO e i (2 * po.length)) ∧ H' = H) := by
  refine icalls_sy (hs := [(8, .val (fun _ => Value.int IntKind.i64 e.phase)), (14, .val (fun _ => Value.slice (some ⟨(i + 64), (2 * po.length), some 4⟩) e.outs.length e.outs.length)), (21, .val (fun _ => Value.slice (some ⟨(i + 64), (2 * po.length), some 4⟩) e.outs.length e.outs.length))]) 40 mixed sc0_ok (by kernel_rfl) (by kernel_rfl) ?_
  obtain ⟨R, hR⟩ : ∃ R, R = slotR H.length (fun r H' => r = .ret (sentO e i (2 * po.length)) ∧ H' = H) := ⟨_, rfl⟩
  obtain ⟨B, hB⟩ : ∃ B, B = H.map (mvO shU) := ⟨_, rfl⟩
  obtain ⟨g1, g2, es, c, g3, L⟩ := h.base
  rw [← hB] at g1 g2 g3
  rw [← hR, ← hB]
  refine Eq.mp (α := (Ide.cellAt B k 2 = some (Value.int IntKind.i64 e.phase) ∧ (Ide.bcase (e.phase != 3)
 (R (IEnd.ret (Value.slice none 0 0)) (Ide.pad 64 [] B))
 (Ide.cellAt B k 4 = some (Value.slice (some ⟨(i + 64), (2 * po.length), some 4⟩) e.outs.length e.outs.length) ∧ (Ide.cellAt B k 4 = some (Value.slice (some ⟨(i + 64), (2 * po.length), some 4⟩) e.outs.length e.outs.length) ∧ (2 = 2 ∧ (0 : Int) ≤ 0 ∧ (0 : Int) ≤ (if 4 < ((e.outs.length : Nat) : Int) then 4 else ((e.outs.length : Nat) : Int)) ∧ (if 4 < ((e.outs.length : Nat) : Int) then 4 else ((e.outs.length : Nat) : Int)) ≤ (if 4 < ((e.outs.length : Nat) : Int) then 4 else ((e.outs.length : Nat) : Int)) ∧ (if 4 < ((e.outs.length : Nat) : Int) then 4 else ((e.outs.length : Nat) : Int)) ≤ ((e.outs.length : Nat) : Int) ∧ (R (IEnd.ret (Value.slice (some ⟨(i + 64), (2 * po.length), some (Ide.exq 2 (Int.toNat (if 4 < ((e.outs.length : Nat) : Int) then 4 else ((e.outs.length : Nat) : Int))))⟩) (Int.toNat (if 4 < ((e.outs.length : Nat) : Int) then 4 else ((e.outs.length : Nat) : Int))) (Int.toNat (if 4 < ((e.outs.length : Nat) : Int) then 4 else ((e.outs.length : Nat) : Int))))) (Ide.pad 64 [] B)))))))) (by kernel_rfl) ?_
  refine ⟨cellAt_of g1 rfl, bcI (fun hp => ?_) fun hp => ?_⟩
  · have hp : ¬ e.phase = 3 := by simpa using hp
    rw [hR, hB]
    refine slot_less _ (sentO e i (2 * po.length)) ?_ ⟨rfl, rfl⟩
    unfold sentO flyS
    rw [if_neg hp]
    exact Less.nil _ _ _
  · have hp : e.phase = 3 := by simpa using hp
    have hf : (if 4 < ((e.outs.length : Nat) : Int) then 4 else ((e.outs.length : Nat) : Int)) = flyS e := by unfold flyS; rw [if_pos hp]; split <;> split <;> omega
    have hf0 : 0 ≤ flyS e := by rw [← hf]; split <;> omega
    have hf1 : flyS e ≤ ((e.outs.length : Nat) : Int) := by rw [← hf]; split <;> omega
    rw [hf]
    refine ⟨cellAt_of g1 rfl, cellAt_of g1 rfl, rfl, by omega, hf0, Int.le_refl _, hf1, ?_⟩
    rw [hR, hB]
    refine slot_less _ (sentO e i (2 * po.length)) ?_ ⟨rfl, rfl⟩
    have : mvV (unS [] H.length) (.slice (some ⟨i + 64, 2 * po.length, some (exq 2 (flyS e).toNat)⟩) (flyS e).toNat (flyS e).toNat) = .slice (some ⟨i, 2 * po.length, some (exq 2 (flyS e).toNat)⟩) (flyS e).toNat (flyS e).toNat := by simp only [mvV, unS_sh]
    rw [this]
    exact less_exq _ _ 2 _

end
end Go.Proofs.Ytoikiogaiikheaa.Sess
