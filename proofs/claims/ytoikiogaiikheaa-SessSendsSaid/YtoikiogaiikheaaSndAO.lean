/- The next life; equal ends; the law SessStarts over an end. -/
import Derived.Test.YtoikiogaiikheaaSndAN
import Derived.Test.YtoikiogaiikheaaSndAM
import Derived.ProofKit
set_option linter.unusedSectionVars false
set_option linter.unusedVariables false
set_option linter.unusedSimpArgs false
set_option maxRecDepth 10000
namespace Go.Proofs.Ytoikiogaiikheaa.Sess
open Go Go.RowKit Ide Go.Proofs

def agL (g : Bool) (n : Int) : Int := if g = true then (if n = 1000000000 then 0 else stL (IntKind.wrap .i64 (n + 1))) else 0
def agP (g : Bool) (n : Int) : Int := if g = true then (if n = 1000000000 then 0 else stP (IntKind.wrap .i64 (n + 1))) else 0
def agE (g : Bool) (n : Int) : Int := if g = true then (if n = 1000000000 then 3 else stE (IntKind.wrap .i64 (n + 1))) else 2
def againS (g : Bool) (n : Int) : Value := .tuple ⟨[endN (agL g n) (agP g n), .int .i64 (agE g n)]⟩

def scAgain (e : SE) : SCall := fun g args H K =>
  bif Nat.beq g 9 then (match args with | [.int .i64 n] => K (startS n) H | _ => False)
  else bif Nat.beq g 11 then (match args with | [.int .i64 n] => K (startS n) H | _ => False)
  else bif Nat.beq g 22 then args = [endV e] ∧ H[0]? = some (.cells (outC e.outs) false) ∧ H[1]? = some (.cells (inC e.ins) false) ∧ K (.bool (goodS e)) H
  else bif Nat.beq g 36 then args = [endV e] ∧ H[0]? = some (.cells (outC e.outs) false) ∧ H[1]? = some (.cells (inC e.ins) false) ∧ K (.bool (fineS e)) H
  else False
theorem scAgain_ok {e : SE} (w : Wf e) : SOk Pr (scAgain e) := by
  intro g args H K h
  unfold scAgain at h
  rcases bif2 h with ⟨hg, h⟩ | ⟨_, h⟩
  · have := Nat.eq_of_beq_eq_true hg
    subst this
    split at h
    · exact (start_ok _ H).mono fun r H' hr => ⟨_, hr.1, by rw [hr.2]; exact h⟩
    · exact h.elim
  · rcases bif2 h with ⟨hg, h⟩ | ⟨_, h⟩
    · have := Nat.eq_of_beq_eq_true hg
      subst this
      split at h
      · exact (sstart_ok _ H).mono fun r H' hr => ⟨_, hr.1, by rw [hr.2]; exact h⟩
      · exact h.elim
    · rcases bif2 h with ⟨hg, rfl, h0, h1, hk⟩ | ⟨_, h⟩
      · have := Nat.eq_of_beq_eq_true hg
        subst this
        exact (good_ok w h0 h1).mono fun r H' hr => ⟨_, hr.1, by rw [hr.2]; exact hk⟩
      · obtain ⟨hg, rfl, h0, h1, hk⟩ := bifF h
        have := Nat.eq_of_beq_eq_true hg
        subst this
        exact (fine_ok w h0 h1).mono fun r H' hr => ⟨_, hr.1, by rw [hr.2]; exact hk⟩

theorem again_ok {e : SE} (w : Wf e) {H : IHeap} (h0 : H[0]? = some (.cells (outC e.outs) false)) (h1 : H[1]? = some (.cells (inC e.ins) false)) : ICalls Pr 10 [endV e] H (fun r H' => r = .ret (againS (goodS e) e.life) ∧ H' = H) := by
  refine lift1 rfl (icalls_sx (by kernel_rfl) (iwl_last (hs := []) (rf := true) mixed (scAgain_ok w) _ (by kernel_rfl) ?_)) h0 h1
  refine Eq.mp (α := ([endV e] = [endV e] ∧ (some (.cells (outC e.outs) false) : Option IObj) = some (.cells (outC e.outs) false) ∧ (some (.cells (inC e.ins) false) : Option IObj) = some (.cells (inC e.ins) false) ∧ (Ide.bcase (!(goodS e))
 (IEnd.ret (Value.tuple ⟨[Value.agg ⟨[Value.int IntKind.i64 0, Value.int IntKind.i64 0, Value.int IntKind.i64 0, Value.int IntKind.i64 0, Value.slice none 0 0, Value.int IntKind.i64 0, Value.slice none 0 0]⟩, Value.int IntKind.i64 2]⟩) = IEnd.ret (againS (goodS e) e.life))
 (Ide.bcase (e.life == 1000000000)
 (IEnd.ret (Value.tuple ⟨[Value.agg ⟨[Value.int IntKind.i64 0, Value.int IntKind.i64 0, Value.int IntKind.i64 0, Value.int IntKind.i64 0, Value.slice none 0 0, Value.int IntKind.i64 0, Value.slice none 0 0]⟩, Value.int IntKind.i64 3]⟩) = IEnd.ret (againS (goodS e) e.life))
 (IEnd.ret (Value.tuple ⟨[Value.agg ⟨[Value.int IntKind.i64 (stL (IntKind.wrap .i64 (e.life + 1))), Value.int IntKind.i64 0, Value.int IntKind.i64 (stP (IntKind.wrap .i64 (e.life + 1))), Value.int IntKind.i64 0, Value.slice none 0 0, Value.int IntKind.i64 0, Value.slice none 0 0]⟩, Value.int IntKind.i64 (stE (IntKind.wrap .i64 (e.life + 1)))]⟩) = IEnd.ret (againS (goodS e) e.life)))))) (by kernel_rfl) ?_
  refine And.intro rfl (And.intro rfl (And.intro rfl (bcI (fun h => ?_) (fun h => bcI (fun h2 => ?_) (fun h2 => ?_))))) <;> simp_all [againS, agL, agP, agE, endN]

theorem sagain_ok {e : SE} (w : Wf e) {H : IHeap} (h0 : H[0]? = some (.cells (outC e.outs) false)) (h1 : H[1]? = some (.cells (inC e.ins) false)) : ICalls Pr 12 [endV e] H (fun r H' => r = .ret (againS (fineS e) e.life) ∧ H' = H) := by
  refine lift1 rfl (icalls_sx (by kernel_rfl) (iwl_last (hs := []) (rf := true) mixed (scAgain_ok w) _ (by kernel_rfl) ?_)) h0 h1
  refine Eq.mp (α := ([endV e] = [endV e] ∧ (some (.cells (outC e.outs) false) : Option IObj) = some (.cells (outC e.outs) false) ∧ (some (.cells (inC e.ins) false) : Option IObj) = some (.cells (inC e.ins) false) ∧ (Ide.bcase (!(fineS e))
 (IEnd.ret (Value.tuple ⟨[Value.agg ⟨[Value.int IntKind.i64 0, Value.int IntKind.i64 0, Value.int IntKind.i64 0, Value.int IntKind.i64 0, Value.slice none 0 0, Value.int IntKind.i64 0, Value.slice none 0 0]⟩, Value.int IntKind.i64 2]⟩) = IEnd.ret (againS (fineS e) e.life))
 (Ide.bcase (e.life == 1000000000)
 (IEnd.ret (Value.tuple ⟨[Value.agg ⟨[Value.int IntKind.i64 0, Value.int IntKind.i64 0, Value.int IntKind.i64 0, Value.int IntKind.i64 0, Value.slice none 0 0, Value.int IntKind.i64 0, Value.slice none 0 0]⟩, Value.int IntKind.i64 3]⟩) = IEnd.ret (againS (fineS e) e.life))
 (IEnd.ret (Value.tuple ⟨[Value.agg ⟨[Value.int IntKind.i64 (stL (IntKind.wrap .i64 (e.life + 1))), Value.int IntKind.i64 0, Value.int IntKind.i64 (stP (IntKind.wrap .i64 (e.life + 1))), Value.int IntKind.i64 0, Value.slice none 0 0, Value.int IntKind.i64 0, Value.slice none 0 0]⟩, Value.int IntKind.i64 (stE (IntKind.wrap .i64 (e.life + 1)))]⟩) = IEnd.ret (againS (fineS e) e.life)))))) (by kernel_rfl) ?_
  refine And.intro rfl (And.intro rfl (And.intro rfl (bcI (fun h => ?_) (fun h => bcI (fun h2 => ?_) (fun h2 => ?_))))) <;> simp_all [againS, agL, agP, agE, endN]

/-! ### SameEnd, of ends without messages -/
noncomputable def A13 : List Code := (sp 13).take 4
noncomputable def B13 : List Code := ((sp 13).drop 5).take 1
noncomputable def C13 : List Code := (sp 13).drop 7
noncomputable def L13a : Code := loopOf (sp 13) 4
noncomputable def L13b : Code := loopOf (sp 13) 6
theorem sp13 : Ide.spine (bodyOf Pr 13) [] = A13 ++ .block 0 (.loop L13a) :: (B13 ++ .block 2 (.loop L13b) :: C13) := by kernel_rfl
def sH (a b c d : Int) : IHeap := [.cells [.int .i64 a, .int .i64 0, .int .i64 b, .int .i64 0, .slice none 0 0, .int .i64 0, .slice none 0 0] true, .cells [.int .i64 c, .int .i64 0, .int .i64 d, .int .i64 0, .slice none 0 0, .int .i64 0, .slice none 0 0] true]
def q0 : Value := .pointer (some ⟨0, 0, none⟩)
def q1 : Value := .pointer (some ⟨1, 0, none⟩)

theorem same_ok (a b c d : Int) (H : IHeap) : ICalls Pr 13 [endN a b, endN c d] H (fun r H' => r = .ret (.bool (a == c && b == d)) ∧ H' = H) := by
  refine lift0 rfl rfl (icalls_sx (by kernel_rfl) ?_) H
  rw [sp13]
  refine iwl_segk (hs := []) (rf := true) mixed sc0_ok [2, 3, 4, 5] A13 _ _ (by kernel_rfl) ?_
  refine Eq.mp (α := (Ide.bcase (a != c)
 (IEnd.ret (Value.bool false) = .ret (.bool (a == c && b == d)))
 (Ide.bcase (b != d)
 (IEnd.ret (Value.bool false) = .ret (.bool (a == c && b == d)))
 (IWL none Pr 94 (.block 0 (.loop L13a) :: (B13 ++ .block 2 (.loop L13b) :: C13)) (bodyS Pr (ressOf Pr 13) fun r x => r = .ret (.bool (a == c && b == d))) [(2, Value.pointer (some ⟨0, 0, none⟩)), (3, Value.pointer (some ⟨1, 0, none⟩)), (4, Value.bool false), (5, Value.int IntKind.i64 0)] (sH a b c d))))) (by kernel_rfl) ?_
  refine bcI (fun h => ?_) (fun h => bcI (fun h2 => ?_) (fun h2 => ?_))
  · simp_all
  · simp_all
  · refine iwl_loop (loop_sx (hs := []) (rf := true) mixed sc0_ok [2, 3, 4, 5] (by kernel_rfl) (by rfl) ?_)
    refine Eq.mp (α := true = true ∧ sH a b c d = sH a b c d ∧ IWL none Pr 94 (B13 ++ .block 2 (.loop L13b) :: C13) (bodyS Pr (ressOf Pr 13) fun r x => r = .ret (.bool (a == c && b == d))) [(2, q0), (3, q1), (4, .bool false), (5, .int .i64 0)] (sH a b c d)) (by kernel_rfl) ⟨rfl, rfl, ?_⟩
    refine iwl_segk (hs := []) (rf := true) mixed sc0_ok [2, 3, 4, 6] B13 _ _ (by kernel_rfl) ?_
    refine Eq.mp (α := IWL none Pr 94 (.block 2 (.loop L13b) :: C13) (bodyS Pr (ressOf Pr 13) fun r x => r = .ret (.bool (a == c && b == d))) [(2, q0), (3, q1), (4, .bool false), (6, .int .i64 0)] (sH a b c d)) (by kernel_rfl) ?_
    refine iwl_loop (loop_sx (hs := []) (rf := true) mixed sc0_ok [2, 3, 4, 6] (by kernel_rfl) (by rfl) ?_)
    refine Eq.mp (α := true = true ∧ sH a b c d = sH a b c d ∧ IWL none Pr 94 C13 (bodyS Pr (ressOf Pr 13) fun r x => r = .ret (.bool (a == c && b == d))) [(2, q0), (3, q1), (4, .bool false), (6, .int .i64 0)] (sH a b c d)) (by kernel_rfl) ⟨rfl, rfl, ?_⟩
    refine iwl_last (hs := []) (rf := true) mixed sc0_ok C13 (by kernel_rfl) ?_
    refine Eq.mp (α := IEnd.ret (.bool true) = IEnd.ret (.bool (a == c && b == d))) (by kernel_rfl) ?_
    simp_all

/-! ### works -/
def worksFns : List FuncId := [8,11,12,16,17,18,20,27,29,30,31,32,33,34,36,42,43,44,45,46,47,48,49,54,55,56,57,65,66,67,68,70,71,74,75,79,80,81,82,83,84,85]
theorem worksFns_ok : worksFns.all (fnOk Pr) = true := by kernel_rfl
theorem works_true : xtrue Pr worksFns 400 30 8 = true := by kernel_rfl
theorem works_ok (H : IHeap) : ICalls Pr 8 [] H (fun r H' => r = .ret (.bool true) ∧ H' = H) := by
  refine lift0 rfl rfl ?_ H
  have hx := works_true
  unfold xtrue at hx
  split at hx
  · rename_i h' hh
    obtain ⟨H', _, hc⟩ := xfun_sound mixed worksFns_ok 400 30 _ _ _ _ _ hh [] ⟨rfl, fun i => by simp [Tr.get]⟩
    exact ICalls.mono (show ICalls Pr 8 [] [] _ from hc) fun r H' h => h.1
  · cases hx

/-! ### the law -/
def scLaw (e : SE) : SCall := fun g args H K =>
  bif Nat.beq g 7 then args = [endV e] ∧ H[0]? = some (.cells (outC e.outs) false) ∧ H[1]? = some (.cells (inC e.ins) false) ∧ K (.bool (wideS e)) H
  else bif Nat.beq g 8 then (match args with | [] => K (.bool true) H | _ => False)
  else bif Nat.beq g 9 then (match args with | [.int .i64 n] => K (startS n) H | _ => False)
  else bif Nat.beq g 10 then args = [endV e] ∧ H[0]? = some (.cells (outC e.outs) false) ∧ H[1]? = some (.cells (inC e.ins) false) ∧ K (againS (goodS e) e.life) H
  else bif Nat.beq g 11 then (match args with | [.int .i64 n] => K (startS n) H | _ => False)
  else bif Nat.beq g 12 then args = [endV e] ∧ H[0]? = some (.cells (outC e.outs) false) ∧ H[1]? = some (.cells (inC e.ins) false) ∧ K (againS (fineS e) e.life) H
  else bif Nat.beq g 13 then ∃ a b c d, args = [endN a b, endN c d] ∧ K (.bool (a == c && b == d)) H
  else False
theorem scLaw_ok {e : SE} (w : Wf e) : SOk Pr (scLaw e) := by
  intro g args H K h
  unfold scLaw at h
  rcases bif2 h with ⟨hg, rfl, h0, h1, hk⟩ | ⟨_, h⟩
  · have := Nat.eq_of_beq_eq_true hg
    subst this
    exact (wide_ok w h0 h1).mono fun r H' hr => ⟨_, hr.1, by rw [hr.2]; exact hk⟩
  rcases bif2 h with ⟨hg, h⟩ | ⟨_, h⟩
  · have := Nat.eq_of_beq_eq_true hg
    subst this
    split at h
    · exact (works_ok H).mono fun r H' hr => ⟨_, hr.1, by rw [hr.2]; exact h⟩
    · exact h.elim
  rcases bif2 h with ⟨hg, h⟩ | ⟨_, h⟩
  · have := Nat.eq_of_beq_eq_true hg
    subst this
    split at h
    · exact (start_ok _ H).mono fun r H' hr => ⟨_, hr.1, by rw [hr.2]; exact h⟩
    · exact h.elim
  rcases bif2 h with ⟨hg, rfl, h0, h1, hk⟩ | ⟨_, h⟩
  · have := Nat.eq_of_beq_eq_true hg
    subst this
    exact (again_ok w h0 h1).mono fun r H' hr => ⟨_, hr.1, by rw [hr.2]; exact hk⟩
  rcases bif2 h with ⟨hg, h⟩ | ⟨_, h⟩
  · have := Nat.eq_of_beq_eq_true hg
    subst this
    split at h
    · exact (sstart_ok _ H).mono fun r H' hr => ⟨_, hr.1, by rw [hr.2]; exact h⟩
    · exact h.elim
  rcases bif2 h with ⟨hg, rfl, h0, h1, hk⟩ | ⟨_, h⟩
  · have := Nat.eq_of_beq_eq_true hg
    subst this
    exact (sagain_ok w h0 h1).mono fun r H' hr => ⟨_, hr.1, by rw [hr.2]; exact hk⟩
  obtain ⟨hg, a, b, c, d, rfl, hk⟩ := bifF h
  have := Nat.eq_of_beq_eq_true hg
  subst this
  exact (same_ok a b c d H).mono fun r H' hr => ⟨_, hr.1, by rw [hr.2]; exact hk⟩

/-! ### the two definitions agree -/
def inR (x : Int) : Prop := -9223372036854775808 ≤ x ∧ x ≤ 9223372036854775807

theorem okO_fO {F : Int} {op : Bool} : ∀ (l : List (ByteArray × Bool)) (i : Nat), (∀ j : Nat, i ≤ j → j < i + l.length → ((1 ≤ j ∧ (j : Int) < F) ↔ (op = true ∧ j ≠ 0 ∧ j < 4))) → okO F i l = fO op i l
  | [], i, h => rfl
  | x :: l, i, h => by
    have h1 := okO_fO l (i + 1) (fun j h1 h2 => h j (by omega) (by simp only [List.length_cons]; omega))
    have h2 := h i (Nat.le_refl _) (by simp only [List.length_cons]; omega)
    simp only [okO, fO, h1]
    have e1 : decide (x.1.size ≤ 20) = !(decide (((x.1.size : Nat) : Int) > 20)) := by
      rw [Bool.eq_iff_iff]; simp; omega
    have e2 : (decide (1 ≤ i) && decide ((i : Int) < F)) = (op && !(((i : Nat) : Int) == 0) && !(decide (((i : Nat) : Int) ≥ 4))) := by
      rw [Bool.eq_iff_iff]
      simp only [Bool.and_eq_true, decide_eq_true_eq, Bool.not_eq_true', beq_eq_false_iff_ne, decide_eq_false_iff_not]
      constructor
      · intro hh
        have := h2.1 hh
        exact ⟨⟨this.1, by omega⟩, by omega⟩
      · intro hh
        exact h2.2 ⟨hh.1.1, by omega, by omega⟩
    rw [e1, e2]

theorem okI_fI {w : Int} (hw : 0 ≤ w ∧ w ≤ 1000000000) : ∀ (l : List (Int × ByteArray)) (last : Int), (∀ x ∈ l, inR x.1) → w ≤ last → last ≤ 1000000000 → okI w last l = fI w (IntKind.wrap .i64 (last + 1)) l
  | [], last, _, _, _ => rfl
  | x :: l, last, hr, h1, h2 => by
    have hx := hr x (by simp)
    unfold inR at hx
    simp only [okI, fI]
    rw [wrap_i64 (x := last + 1) (by omega) (by omega), wrap_i64 (x := w + 4) (by omega) (by omega)]
    by_cases g1 : last < x.1
    · rw [wrap_i64 (x := x.1 - w) (by omega) (by omega)]
      have e1 : decide (last < x.1) = !(decide (x.1 < last + 1)) := by rw [Bool.eq_iff_iff]; simp; omega
      have e2 : decide (x.2.size ≤ 20) = !(decide (((x.2.size : Nat) : Int) > 20)) := by rw [Bool.eq_iff_iff]; simp; omega
      have e3 : (decide (x.1 - w < 4) && decide (x.1 < 1000000000)) = !(decide (x.1 ≥ (if 1000000000 < w + 4 then 1000000000 else w + 4))) := by
        rw [Bool.eq_iff_iff]
        simp only [Bool.and_eq_true, decide_eq_true_eq, Bool.not_eq_true', decide_eq_false_iff_not]
        split <;> omega
      rw [show (decide (last < x.1) && decide (x.1 - w < 4) && decide (x.1 < 1000000000) && decide (x.2.size ≤ 20) && okI w x.1 l) = (decide (last < x.1) && (decide (x.1 - w < 4) && decide (x.1 < 1000000000)) && decide (x.2.size ≤ 20) && okI w x.1 l) by simp [Bool.and_assoc], e3, e1, e2]
      by_cases g2 : x.1 < 1000000000
      · rw [okI_fI hw l x.1 (fun y hy => hr y (by simp [hy])) (by omega) (by omega)]
      · have : decide (x.1 ≥ (if 1000000000 < w + 4 then 1000000000 else w + 4)) = true := by
          simp only [decide_eq_true_eq]; split <;> omega
        simp [this]
    · have e1 : decide (last < x.1) = false := by simpa using g1
      have e2 : decide (x.1 < last + 1) = true := by simp; omega
      simp [e1, e2]

theorem good_fine {e : SE} (hb : inR e.base) (hw : inR e.want) (hl : e.outs.length ≤ 9223372036854775807) (hi : ∀ x ∈ e.ins, inR x.1) : goodS e = fineS e := by
  unfold inR at hb hw
  by_cases hwant : 0 ≤ e.want ∧ e.want ≤ 1000000000
  · have hI : insS e = fI e.want (IntKind.wrap .i64 (e.want + 1)) e.ins := okI_fI hwant e.ins e.want hi (Int.le_refl _) hwant.2
    have hO : outsS e = (decide (e.outs.length ≤ 12) && fO (e.phase == 3) 0 e.outs) := by
      unfold outsS
      congr 1
      refine okO_fO e.outs 0 fun j _ hj => ?_
      unfold flyS
      by_cases hp : e.phase = 3
      · simp only [hp, if_true, BEq.rfl, true_and]
        split <;> omega
      · simp only [hp, if_false]
        have : (e.phase == 3) = false := by simpa using hp
        simp only [this]
        constructor
        · intro h; omega
        · intro h; cases h.1
    have hnil : ¬ ((e.ins.length : Nat) : Int) > 0 → fI e.want (IntKind.wrap .i64 (e.want + 1)) e.ins = true := by
      intro h
      have : e.ins = [] := List.length_eq_zero_iff.1 (by omega)
      rw [this]
      rfl
    by_cases hbase : 0 ≤ e.base ∧ e.base ≤ 1000000000
    · unfold goodS fineS fine1S fine2S
      rw [hI, hO, wrap_i64 (x := 1000000000 - e.base) (by omega) (by omega), wrap_i64 (x := 1000000000 - ((e.outs.length : Nat) : Int)) (by omega) (by omega)]
      generalize fI e.want (IntKind.wrap .i64 (e.want + 1)) e.ins = A at *
      rw [Bool.eq_iff_iff]
      by_cases hp : e.phase = 3
      · rw [hp]
        generalize fO ((3 : Int) == 3) 0 e.outs = B
        simp only [inS, Bool.and_eq_true, Bool.not_eq_true', decide_eq_true_eq, decide_eq_false_iff_not, BEq.rfl, cond_true, Bool.true_or, Bool.and_true]
        have e13 : ((3 : Int) == 1) = false := rfl
        rw [e13]
        constructor
        · rintro ⟨⟨⟨⟨⟨⟨h1, h2⟩, h3⟩, h4⟩, h5, h6⟩, h7⟩, h8, h9⟩
          have hpe : (e.peer == 0) = false := by simp; omega
          rw [hpe]
          refine ⟨⟨⟨⟨⟨⟨⟨⟨⟨⟨⟨⟨⟨?_, ?_⟩, ?_⟩, ?_⟩, rfl⟩, ?_⟩, ?_⟩, ?_⟩, ?_⟩, ?_⟩, ?_⟩, ?_⟩, h9⟩, h6⟩ <;> omega
        · rintro ⟨⟨⟨⟨⟨⟨⟨⟨⟨⟨⟨⟨⟨h1, h2⟩, h3⟩, h4⟩, h5⟩, h6⟩, h7⟩, h8⟩, h9⟩, h10⟩, h11⟩, h12⟩, h13⟩, h14⟩
          have hpe : ¬ e.peer = 0 := by
            intro h
            rw [h] at h5
            cases h5
          refine ⟨⟨⟨⟨⟨⟨⟨?_, ?_⟩, ?_, ?_⟩, ?_, ?_⟩, ?_, ?_⟩, ?_, h14⟩, ?_⟩, ?_, h13⟩ <;> omega
      · have hp3 : (e.phase == 3) = false := by simpa using hp
        rw [hp3]
        generalize fO false 0 e.outs = B
        simp only [inS, Bool.and_eq_true, Bool.not_eq_true', Bool.or_eq_true, decide_eq_true_eq, decide_eq_false_iff_not, cond_false, Bool.false_eq_true, false_or, beq_iff_eq, bne_eq_false_iff_eq]
        have key : ((e.phase == 1) == (e.peer == 0)) = true ↔ (e.phase = 1 ↔ e.peer = 0) := by
          rw [beq_iff_eq, Bool.eq_iff_iff, beq_iff_eq, beq_iff_eq]
        have key' : ((e.phase == 1) = (e.peer == 0)) ↔ (e.phase = 1 ↔ e.peer = 0) := by
          rw [Bool.eq_iff_iff, beq_iff_eq, beq_iff_eq]
        rw [key']
        constructor
        · rintro ⟨⟨⟨⟨⟨⟨h1, h2⟩, h3⟩, h4⟩, h5, h6⟩, h7⟩, ⟨⟨h8, h9⟩, h10⟩, h11⟩
          refine ⟨⟨⟨⟨⟨⟨⟨⟨⟨⟨⟨⟨⟨⟨?_, ?_⟩, ?_⟩, ?_⟩, ?_⟩, ?_⟩, ?_⟩, ?_⟩, ?_⟩, ?_⟩, ?_⟩, ?_⟩, hnil h10⟩, ⟨?_, ?_⟩, h10⟩, h6⟩ <;> omega
        · rintro ⟨⟨⟨⟨⟨⟨⟨⟨⟨⟨⟨⟨⟨⟨h1, h2⟩, h3⟩, h4⟩, h5⟩, h6⟩, h7⟩, h8⟩, h9⟩, h10⟩, h11⟩, h12⟩, h13⟩, ⟨h14, h15⟩, h16⟩, h17⟩
          refine ⟨⟨⟨⟨⟨⟨⟨?_, ?_⟩, ?_, ?_⟩, ?_, ?_⟩, ?_, ?_⟩, ?_, h17⟩, ?_⟩, ⟨⟨?_, ?_⟩, h16⟩, ?_⟩ <;> omega
    · have e1 : inS e.base 0 1000000000 = false := by simp [inS]; omega
      have e2 : fine1S e = false := by
        unfold fine1S
        rw [wrap_i64 (x := 1000000000 - ((e.outs.length : Nat) : Int)) (by omega) (by omega)]
        by_cases h : e.base < 0
        · simp [h]
        · have : decide (e.base > 1000000000 - ((e.outs.length : Nat) : Int)) = true := by simp; omega
          simp [this]
      unfold goodS fineS
      rw [e1, e2]
      simp
  · have e1 : inS e.want 0 1000000000 = false := by simp [inS]; omega
    have e2 : fine1S e = false := by
      unfold fine1S
      by_cases h : e.want < 0
      · simp [h]
      · have : decide (e.want > 1000000000) = true := by simp; omega
        simp [this]
    unfold goodS fineS
    rw [e1, e2]
    simp

theorem law_ok (life : Int) {e : SE} (w : Wf e) (hb : inR e.base) (hw : inR e.want) (hi : ∀ x ∈ e.ins, inR x.1) : ICalls Pr 3 [.int .i64 life, endV e] (endH e) (fun r _ => r = .ret (.bool true)) := by
  refine icalls_sx (by kernel_rfl) (iwl_last (hs := []) (rf := true) mixed (scLaw_ok w) _ (by kernel_rfl) ?_)
  refine Eq.mp (α := ([endV e] = [endV e] ∧ (some (.cells (outC e.outs) false) : Option IObj) = some (.cells (outC e.outs) false) ∧ (some (.cells (inC e.ins) false) : Option IObj) = some (.cells (inC e.ins) false) ∧ (Ide.bcase (wideS e)
 (IEnd.ret (Value.bool true) = IEnd.ret (.bool true))
 ([endV e] = [endV e] ∧ (some (.cells (outC e.outs) false) : Option IObj) = some (.cells (outC e.outs) false) ∧ (some (.cells (inC e.ins) false) : Option IObj) = some (.cells (inC e.ins) false) ∧ ([endV e] = [endV e] ∧ (some (.cells (outC e.outs) false) : Option IObj) = some (.cells (outC e.outs) false) ∧ (some (.cells (inC e.ins) false) : Option IObj) = some (.cells (inC e.ins) false) ∧ (∃ a b c d : Int, [endN (stL life) (stP life), endN (stL life) (stP life)] = [endN a b, endN c d] ∧ (Ide.bcase (a == c && b == d)
 (Ide.bcase ((stE life) == (stE life))
 (∃ a b c d : Int, [endN (agL (fineS e) e.life) (agP (fineS e) e.life), endN (agL (goodS e) e.life) (agP (goodS e) e.life)] = [endN a b, endN c d] ∧ (Ide.bcase (a == c && b == d)
 (Ide.bcase ((agE (fineS e) e.life) == (agE (goodS e) e.life))
 (IEnd.ret (Value.bool true) = IEnd.ret (.bool true))
 (IEnd.ret (Value.bool false) = IEnd.ret (.bool true)))
 (IEnd.ret (Value.bool false) = IEnd.ret (.bool true))))
 (IEnd.ret (Value.bool false) = IEnd.ret (.bool true)))
 (IEnd.ret (Value.bool false) = IEnd.ret (.bool true))))))))) (by kernel_rfl) ?_
  have hgf := good_fine hb hw w.on hi
  refine And.intro rfl (And.intro rfl (And.intro rfl (bcI (fun h => rfl) (fun h => And.intro rfl (And.intro rfl (And.intro rfl (And.intro rfl (And.intro rfl (And.intro rfl ?_)))))))))
  refine ⟨_, _, _, _, rfl, bcI (fun h1 => bcI (fun h2 => ?_) (fun h2 => ?_)) (fun h1 => ?_)⟩
  · rw [hgf]
    refine ⟨_, _, _, _, rfl, bcI (fun h3 => bcI (fun h4 => rfl) (fun h4 => ?_)) (fun h3 => ?_)⟩
    · simp at h4
    · simp at h3
  · simp at h2
  · simp at h1

end Go.Proofs.Ytoikiogaiikheaa.Sess

/- What came in, as ideal blocks. -/
set_option linter.unusedVariables false
set_option linter.unusedSimpArgs false
namespace Ide
open Go Go.RowKit
variable [Pol]

theorem mapM_each {α γ : Type} {f : α → Option γ} : ∀ {l : List α} {r : List γ}, l.mapM f = some r → ∀ x ∈ l, ∃ y, f x = some y
  | [], _, _, x, hx => by cases hx
  | a :: l, r, h, x, hx => by
    rw [List.mapM_cons] at h
    cases ha : f a with
    | none => rw [ha] at h; simp at h
    | some y =>
      rw [ha] at h
      cases hl : l.mapM f with
      | none => simp [hl] at h
      | some ys =>
        rcases List.mem_cons.1 hx with rfl | hx
        · exact ⟨y, ha⟩
        · exact mapM_each hl x hx

section
variable {H : Type} {enc : TypeId × Value → H} {P : Program} {w : World} {base : Nat} {sp : Nat → Bool} {held : Bool}

theorem trod_slice {fuel : Nat} {t e : TypeId} {c : Value} {r : DataW H × List MemPlace} (hu : P.underlying t = some (.slice e)) (h : DataW.trod enc P w base sp held fuel t [c] = some r) :
    c = .slice none 0 0 ∨ ∃ a len cap, c = .slice (some a) len cap ∧ len ≤ cap ∧ cap ≤ maxLen ∧ ∃ fuel', ∀ i, i < len → ∃ cs r, w.cells? base (a.add (i * P.cellsOf e)) (P.cellsOf e) = some cs ∧ DataW.trod enc P w base sp held fuel' e cs = some r := by
  cases fuel with
  | zero => simp [DataW.trod] at h
  | succ fuel =>
    unfold DataW.trod at h
    rw [hu] at h
    cases c <;> try (simp at h; done)
    rename_i a len cap
    cases a with
    | none =>
      cases len <;> cases cap <;> first | exact .inl rfl | (simp at h; done)
    | some a =>
      simp only at h
      split at h
      · rename_i hc
        refine .inr ⟨a, len, cap, rfl, hc.2.1, hc.2.2, fuel, fun i hi => ?_⟩
        obtain ⟨elems, he, _⟩ := Option.bind_eq_some_iff.1 h
        obtain ⟨y, hy⟩ := mapM_each he i (List.mem_range.2 hi)
        obtain ⟨cs, h1, h2⟩ := Option.bind_eq_some_iff.1 hy
        exact ⟨cs, y, h1, h2⟩
      · cases h

theorem trod_fields {fuel : Nat} {t : TypeId} {fs : Array Field} {cs : List Value} {r : DataW H × List MemPlace} (hu : P.underlying t = some (.struct fs)) (h : DataW.trod enc P w base sp held fuel t cs = some r) :
    cs.length = P.cellsOf t ∧ ∃ fuel', ∀ f ∈ fs.toList, ∃ r, DataW.trod enc P w base sp held fuel' f.type ((cs.drop f.offset).take (P.cellsOf f.type)) = some r := by
  cases fuel with
  | zero => simp [DataW.trod] at h
  | succ fuel =>
    unfold DataW.trod at h
    rw [hu] at h
    simp only at h
    split at h
    · rename_i hc
      refine ⟨hc, fuel, fun f hf => ?_⟩
      obtain ⟨xs, hx, _⟩ := Option.map_eq_some_iff.1 h
      exact mapM_each hx f hf
    · cases h

theorem trod_int' {fuel : Nat} {t : TypeId} {k : IntKind} {cs : List Value} {r : DataW H × List MemPlace} (hu : P.underlying t = some (.int k)) (h : DataW.trod enc P w base sp held fuel t cs = some r) : ∃ n, cs = [.int k n] ∧ (Lit.int k n).wf = true := by
  cases fuel with
  | zero => simp [DataW.trod] at h
  | succ fuel =>
    unfold DataW.trod at h
    rw [hu] at h
    cases cs with
    | nil => simp at h
    | cons c cs =>
      cases c <;> cases cs <;> try (simp at h; done)
      rename_i k' n
      simp only at h
      split at h
      · rename_i hc; rw [hc.1]; exact ⟨n, rfl, hc.2⟩
      · cases h

theorem trod_bool' {fuel : Nat} {t : TypeId} {cs : List Value} {r : DataW H × List MemPlace} (hu : P.underlying t = some .bool) (h : DataW.trod enc P w base sp held fuel t cs = some r) : ∃ b, cs = [.bool b] := by
  cases fuel with
  | zero => simp [DataW.trod] at h
  | succ fuel =>
    unfold DataW.trod at h
    rw [hu] at h
    cases cs with
    | nil => simp at h
    | cons c cs =>
      cases c <;> cases cs <;> first | exact ⟨_, rfl⟩ | (simp at h; done)

theorem trod_str' {fuel : Nat} {t : TypeId} {cs : List Value} {r : DataW H × List MemPlace} (hu : P.underlying t = some .string) (h : DataW.trod enc P w base sp held fuel t cs = some r) : ∃ s, cs = [.string s] ∧ s.size ≤ maxLen := by
  cases fuel with
  | zero => simp [DataW.trod] at h
  | succ fuel =>
    unfold DataW.trod at h
    rw [hu] at h
    cases cs with
    | nil => simp at h
    | cons c cs =>
      cases c <;> cases cs <;> try (simp at h; done)
      simp only at h
      split at h
      · rename_i hc; exact ⟨_, rfl, hc⟩
      · cases h

end

theorem list_of {α : Type} {p : Nat → α → Prop} : ∀ (n : Nat), (∀ i, i < n → ∃ x, p i x) → ∃ l : List α, l.length = n ∧ ∀ i x, l[i]? = some x → p i x
  | 0, _ => ⟨[], rfl, fun i x h => by simp at h⟩
  | n + 1, h => by
    obtain ⟨l, h1, h2⟩ := list_of n fun i hi => h i (Nat.lt_succ_of_lt hi)
    obtain ⟨x, hx⟩ := h n (Nat.lt_succ_self n)
    refine ⟨l ++ [x], by simp [h1], fun i y hy => ?_⟩
    by_cases hi : i < l.length
    · rw [List.getElem?_append_left hi] at hy
      exact h2 i y hy
    · rw [List.getElem?_append_right (by omega)] at hy
      have : i - l.length = 0 := by
        have := (List.getElem?_eq_some_iff.1 hy).1
        simp at this
        omega
      rw [this] at hy
      simp at hy
      subst hy
      have : i = n := by omega
      rw [this]
      exact hx

theorem cells_two {w : World} {a : Addr} {cs : List Value} (h : w.cells? 0 a 2 = some cs) : ∃ x y, cs = [x, y] ∧ w.cell? (a.add 0) = some x ∧ w.cell? (a.add 1) = some y := by
  unfold World.cells? at h
  rw [if_pos (Nat.zero_le _)] at h
  have e : List.range 2 = [0, 1] := rfl
  rw [e] at h
  simp only [List.mapM_cons, List.mapM_nil] at h
  cases h0 : w.cell? (a.add 0) with
  | none => simp [h0] at h
  | some x =>
    cases h1 : w.cell? (a.add 1) with
    | none => simp [h0, h1] at h
    | some y => simp [h0, h1] at h; exact ⟨x, y, h.symm, rfl, rfl⟩

/-- The embedding of blocks that came in. -/
def embRo (W : World) (ls : List (Option Loc)) : Emb := { w0 := W, loc := fun i => (ls[i]?).join, held := fun _ => False }

theorem sim_ro (W : World) (ls : List (Option Loc)) (H : IHeap) (hlen : ls.length = H.length)
    (h : ∀ (i : Nat) (l : Loc), ls[i]? = some (some l) → l.block < W.heap.size ∧ l.rw = false ∧ ∃ cs, H[i]? = some (IObj.cells cs false) ∧ ground.groundL cs = true ∧ ∀ j v, cs[j]? = some v → W.cell? ⟨l.block, l.base + j, none⟩ = some v) : Sim (embRo W ls) H W := by
  have get : ∀ {i l}, (embRo W ls).loc i = some l → ls[i]? = some (some l) := by
    intro i l hl
    have hl : (ls[i]?).join = some l := hl
    cases hg : ls[i]? with
    | none => rw [hg] at hl; cases hl
    | some x => rw [hg] at hl; cases x with
      | none => cases hl
      | some x => simp at hl; rw [hl]
  exact {
    below := Below.refl _ _
    dom := fun i l hl => by have := (List.getElem?_eq_some_iff.1 (get hl)).1; omega
    held := fun i hh => hh.elim
    blk := fun i l hl => (h i l (get hl)).1
    obj := fun i l o hl ho => by
      obtain ⟨h1, h2, cs, h3, h4, h5⟩ := h i l (get hl)
      rw [h3] at ho
      cases ho
      exact ⟨h2, h1, cs, VsRel.of_ground _ _ h4, h5⟩
    inj := fun i j l l' o o' hl hl' ho ho' hown _ _ => by
      obtain ⟨h1, h2, cs, h3, h4, h5⟩ := h i l (get hl)
      rw [h3] at ho
      cases ho
      cases hown }

end Ide

/- Ids are given anew behind a round of a loop. -/
set_option linter.unusedVariables false
set_option linter.unusedSimpArgs false
namespace Ide
open Go Go.RowKit
variable [Pol]

def idA (p : Nat → Bool) : Option Addr → Bool
  | some ⟨i, _, _⟩ => p i
  | none => true
def idR (p : Nat → Bool) : Option Nat → Bool
  | some i => p i
  | none => true
def idF (p : Nat → Bool) : Fn → Bool
  | .yield i => p i
  | _ => true

/-- All ids of a value are among some. -/
def idV (p : Nat → Bool) : Value → Bool
  | .pointer a => idA p a
  | .slice a _ _ => idA p a
  | .map r => idR p r
  | .func f a c => idF p f && go a && go c
  | .iface _ v => idV p v
  | .agg cs => go cs
  | .tuple cs => go cs
  | _ => true
  where
  go : Array Value → Bool
    | ⟨l⟩ => goL l
  goL : List Value → Bool
    | [] => true
    | v :: l => idV p v && goL l

mutual
theorem rel_ren {p : Nat → Bool} {σ : Nat → Nat} {L L' : LMap} (hL : ∀ i l, p i = true → L i = some l → L' (σ i) = some l) : ∀ {v v' : Value}, VRel L v v' → idV p v = true → VRel L' (renV σ v) v'
  | _, _, .any v, _ => .any v
  | _, _, .bool b, _ => .bool b
  | _, _, .int k n, _ => .int k n
  | _, _, .str s, _ => .str s
  | _, _, .ptrNil, _ => .ptrNil
  | _, _, .ptr h, hi => .ptr (hL _ _ hi h)
  | _, _, .sliceNil, _ => .sliceNil
  | _, _, .sliceE hq, _ => .sliceE hq
  | _, _, .slice h hn hm hx ho hb, hi => .slice (hL _ _ hi h) hn hm hx ho hb
  | _, _, .mapNil, _ => .mapNil
  | _, _, .map h, hi => .map (hL _ _ hi h)
  | _, _, .func h1 h2, hi => by
    simp only [idV, idV.go, idF, Bool.true_and, Bool.and_eq_true] at hi
    exact .func (rels_ren hL h1 hi.1) (rels_ren hL h2 hi.2)
  | _, _, .yield h, hi => by
    simp only [idV, idV.go, idF, idV.goL, Bool.and_true] at hi
    exact .yield (hL _ _ hi h)
  | _, _, .nilFunc, _ => .nilFunc
  | _, _, .nilIface, _ => .nilIface
  | _, _, .iface h, hi => .iface (rel_ren hL h (by simpa only [idV] using hi))
  | _, _, .agg h, hi => .agg (rels_ren hL h (by simpa only [idV, idV.go] using hi))
  | _, _, .tuple h, hi => .tuple (rels_ren hL h (by simpa only [idV, idV.go] using hi))
theorem rels_ren {p : Nat → Bool} {σ : Nat → Nat} {L L' : LMap} (hL : ∀ i l, p i = true → L i = some l → L' (σ i) = some l) : ∀ {a b : List Value}, VsRel L a b → idV.goL p a = true → VsRel L' (renV.goL σ a) b
  | _, _, .nil, _ => .nil
  | _, _, .cons h t, hi => by
    simp only [idV.goL, Bool.and_eq_true] at hi
    exact .cons (rel_ren hL h hi.1) (rels_ren hL t hi.2)
 end

def renEs (σ : Nat → Nat) (es : List MapEntry) : List MapEntry := es.map fun e => { e with val := renV σ e.val }

def renO (σ : Nat → Nat) : IObj → IObj
  | .cells cs rw => .cells (renV.goL σ cs) rw
  | .map es c => .map (renEs σ es) c
  | o => o
def idO (p : Nat → Bool) : IObj → Bool
  | .cells cs _ => idV.goL p cs
  | .map es _ => es.all fun e => idV p e.val
  | _ => false

/-- An object as it is known under new ids. -/
inductive ObjTo (p : Nat → Bool) (σ : Nat → Nat) : IObj → IObj → Prop
  | dead (o : IObj) : ObjTo p σ o .dead
  | plain {o : IObj} (h : plainO o = true) : ObjTo p σ o o
  | ren {o o' : IObj} (h : idO p o = true) (e : o' = renO σ o) : ObjTo p σ o o'

theorem ObjTo.free {p : Nat → Bool} {σ : Nat → Nat} {o : IObj} (h : ObjTo p σ o .free) : o = .free := by
  cases h with
  | plain => rfl
  | ren h e => cases o <;> first | rfl | cases e

theorem ObjTo.own {p : Nat → Bool} {σ : Nat → Nat} {o o' : IObj} (h : ObjTo p σ o o') (hown : o'.own = true) : o.own = true := by
  cases h with
  | dead => cases hown
  | plain => exact hown
  | ren h e => subst e; cases o <;> exact hown

theorem ObjTo.rel {p : Nat → Bool} {σ : Nat → Nat} {L L' : LMap} (hL : ∀ i l, p i = true → L i = some l → L' (σ i) = some l) {w0 w : World} {l : Ide.Loc} {o o' : IObj} (h : ObjTo p σ o o') (hr : ORel L w0 w l o) : ORel L' w0 w l o' := by
  cases h with
  | dead => trivial
  | plain h => exact plain_rel h hr
  | ren h e =>
    subst e
    match o, h, hr with
    | .cells cs true, ho, ⟨h0, h1, arr, T, vs, h2, h3, h3', h4, h5⟩ =>
      have hl : ∀ l : List Value, (renV.goL σ l).length = l.length := by intro l; induction l with | nil => rfl | cons v l ih => simp [renV.goL, ih]
      exact ⟨h0, h1, arr, T, vs, h2, h3, by rw [hl]; exact h3', rels_ren hL h4 ho, h5⟩
    | .cells cs false, ho, ⟨h0, h1, vs, h2, h3⟩ => exact ⟨h0, h1, vs, rels_ren hL h2 ho, h3⟩
    | .map es clock, ho, ⟨h1, es', h2, h3⟩ =>
      refine ⟨h1, es', h2, ?_⟩
      have go : ∀ (a b : List MapEntry), EsRel L a b → (a.all fun e => idV p e.val) = true → EsRel L' (renEs σ a) b := by
        intro a
        induction a with
        | nil => intro b h _; cases b <;> exact h
        | cons x a ih =>
          intro b h hi
          cases b with
          | nil => exact h
          | cons y b =>
            obtain ⟨h1, h2, h3, h4, h5⟩ := h
            simp only [List.all_cons, Bool.and_eq_true] at hi
            exact ⟨h1, h2, h3, rel_ren hL h4 hi.1, ih b h5 hi.2⟩
      exact go _ _ h3 (by simpa [idO] using ho)

def posN (i : Nat) : List Nat → Nat
  | [] => 0
  | x :: l => bif Nat.beq x i then 0 else posN i l + 1
theorem posN_get {i : Nat} : ∀ {l : List Nat}, i ∈ l → l[posN i l]? = some i
  | [], h => by cases h
  | x :: l, h => by
    simp only [posN]
    cases hb : Nat.beq x i with
    | true => simp [Nat.eq_of_beq_eq_true hb]
    | false =>
      have hne : x ≠ i := fun e => by subst e; simp at hb
      rcases List.mem_cons.1 h with h | h
      · exact absurd h.symm hne
      · simpa using posN_get h
theorem nod_inj : ∀ {l : List Nat}, l.Nodup → ∀ {i j k : Nat}, l[i]? = some k → l[j]? = some k → i = j
  | [], _, i, j, k, h, _ => by simp at h
  | x :: l, hn, 0, 0, k, _, _ => rfl
  | x :: l, hn, 0, j + 1, k, h, h' => by
    simp at h h'
    subst h
    exact absurd (List.mem_of_getElem? h') (List.nodup_cons.1 hn).1
  | x :: l, hn, i + 1, 0, k, h, h' => by
    simp at h h'
    subst h'
    exact absurd (List.mem_of_getElem? h) (List.nodup_cons.1 hn).1
  | x :: l, hn, i + 1, j + 1, k, h, h' => by
    exact congrArg (· + 1) (nod_inj (List.nodup_cons.1 hn).2 (i := i) (j := j) (k := k) (by simpa using h) (by simpa using h'))

/-- The new id of an id: the first m stay, of the others some are kept. -/
def sig (m : Nat) (ks : List Nat) (i : Nat) : Nat := bif Nat.blt i m then i else m + posN i ks
def kept (m : Nat) (ks : List Nat) (i : Nat) : Bool := Nat.blt i m || memN i ks

theorem memN_iff {t : Nat} : ∀ {l : List Nat}, memN t l = true ↔ t ∈ l
  | [] => by simp [memN]
  | x :: l => by
    simp only [memN]
    cases h : Nat.beq x t with
    | true => simp [Nat.eq_of_beq_eq_true h]
    | false =>
      have hne : t ≠ x := fun e => by subst e; simp at h
      have ih := memN_iff (t := t) (l := l)
      simp only [cond_false]
      rw [ih]
      simp [hne]

structure Recast (m : Nat) (ks : List Nat) (env : Env) (H : IHeap) (env2 : Env) (H2 : IHeap) : Prop where
  len : H2.length = m + ks.length
  nodup : ks.Nodup
  ge : ∀ k, k ∈ ks → m ≤ k
  env : ∀ t, lk env2 t = anyV ∨ (lk env2 t = renV (sig m ks) (lk env t) ∧ idV (kept m ks) (lk env t) = true)
  low : ∀ j o, j < m → H2[j]? = some o → ∃ o', H[j]? = some o' ∧ ObjTo (kept m ks) (sig m ks) o' o
  high : ∀ j k o, ks[j]? = some k → H2[m + j]? = some o → ∃ o', H[k]? = some o' ∧ ObjTo (kept m ks) (sig m ks) o' o

/-- Where things lie, by new ids. -/
def recLoc (m : Nat) (ks : List Nat) (L : LMap) : LMap := fun j => if j < m then L j else (ks[j - m]?).bind L

theorem recLoc_src {m : Nat} {ks : List Nat} {L : LMap} {j : Nat} {l : Ide.Loc} (h : recLoc m ks L j = some l) : (j < m ∧ L j = some l) ∨ (m ≤ j ∧ ∃ k, ks[j - m]? = some k ∧ L k = some l) := by
  unfold recLoc at h
  split at h
  · exact .inl ⟨‹_›, h⟩
  · obtain ⟨k, h1, h2⟩ := Option.bind_eq_some_iff.1 h
    exact .inr ⟨by omega, k, h1, h2⟩

theorem recLoc_sig {m : Nat} {ks : List Nat} {L : LMap} {i : Nat} {l : Ide.Loc} (hi : kept m ks i = true) (h : L i = some l) : recLoc m ks L (sig m ks i) = some l := by
  unfold sig recLoc
  cases hb : Nat.blt i m with
  | true =>
    simp only [cond_true]
    rw [if_pos (by simpa [Nat.blt_eq] using hb)]
    exact h
  | false =>
    simp only [cond_false]
    rw [if_neg (by omega), Nat.add_sub_cancel_left]
    unfold kept at hi
    rw [hb, Bool.false_or, memN_iff] at hi
    have h1 := posN_get hi
    rw [h1]
    exact h

theorem Recast.sim {m : Nat} {ks : List Nat} {env env2 : Env} {H H2 : IHeap} (R : Recast m ks env H env2 H2) {β : Emb} {w : World} (S : Sim β H w) (hh : ∀ id, β.held id → id < m) :
    Sim { w0 := β.w0, loc := recLoc m ks β.loc, held := β.held } H2 w := by
  have nod : ∀ i j k, ks[i]? = some k → ks[j]? = some k → i = j := fun i j k h1 h2 => nod_inj R.nodup h1 h2
  have src : ∀ {j l o}, recLoc m ks β.loc j = some l → H2[j]? = some o → ∃ i o', β.loc i = some l ∧ H[i]? = some o' ∧ ObjTo (kept m ks) (sig m ks) o' o ∧ ((j < m ∧ i = j) ∨ (m ≤ j ∧ ks[j - m]? = some i)) := by
    intro j l o hl ho
    rcases recLoc_src hl with ⟨h1, h2⟩ | ⟨h1, k, h2, h3⟩
    · obtain ⟨o', h4, h5⟩ := R.low j o h1 ho
      exact ⟨j, o', h2, h4, h5, .inl ⟨h1, rfl⟩⟩
    · obtain ⟨o', h4, h5⟩ := R.high (j - m) k o h2 (by rw [show m + (j - m) = j by omega]; exact ho)
      exact ⟨k, o', h3, h4, h5, .inr ⟨h1, h2⟩⟩
  exact {
    below := S.below
    dom := fun j l hl => by
      rw [R.len]
      rcases recLoc_src hl with ⟨h1, _⟩ | ⟨h1, k, h2, _⟩
      · omega
      · have := (List.getElem?_eq_some_iff.1 h2).1; omega
    held := fun id h => by
      have h1 := hh id h
      refine ⟨by rw [R.len]; omega, ?_, fun h4 => ?_⟩
      · show recLoc m ks β.loc id = none
        unfold recLoc
        rw [if_pos h1]
        exact (S.held id h).2.1
      · obtain ⟨o', h5, h6⟩ := R.low id _ h1 h4
        have := h6.free
        subst this
        exact (S.held id h).2.2 h5
    blk := fun j l hl => by
      rcases recLoc_src hl with ⟨_, h2⟩ | ⟨_, k, _, h3⟩
      · exact S.blk _ _ h2
      · exact S.blk _ _ h3
    obj := fun j l o hl ho => by
      obtain ⟨i, o', h1, h2, h3, _⟩ := src hl ho
      exact h3.rel (fun i l hi h => recLoc_sig hi h) (S.obj i l o' h1 h2)
    inj := fun i j l l' o o' hl hl' ho ho' hown hown' hb => by
      obtain ⟨a, oa, a1, a2, a3, a4⟩ := src hl ho
      obtain ⟨b, ob, b1, b2, b3, b4⟩ := src hl' ho'
      have hab := S.inj a b l l' oa ob a1 b1 a2 b2 (a3.own hown) (b3.own hown') hb
      subst hab
      rcases a4 with ⟨p1, p2⟩ | ⟨p1, p2⟩ <;> rcases b4 with ⟨q1, q2⟩ | ⟨q1, q2⟩
      · omega
      · have := R.ge a (List.mem_of_getElem? q2); omega
      · have := R.ge a (List.mem_of_getElem? p2); omega
      · have := nod _ _ _ p2 q2; omega }

/-- A loop at the head of a round, of which only the first m ids are known outside. -/
def LWR (ro : Option Nat) (P : Program) (nt m : Nat) (c : Code) (Q : IExit → Env → IHeap → Prop) (env : Env) (H : IHeap) : Prop :=
  ∀ (βe : Emb) (we : World), (∀ id l, βe.loc id = some l → id < m) → (∀ id, βe.held id → id < m) →
    ∀ (n0 : Nat) (β : Emb) (w : World) (a : Act), Step βe we β w → Sim β H w → TRel β.loc nt env a.tmps → Mk n0 β w a.defers →
      ∀ (b : Frame) (k : List Item) (cs : List Frame), b.roundOf = (Fz ro).round → (Fz ro).fn b.fn → (Fz ro).room (cs.length + 1 + 0) →
        ∃ e a' w', QR n0 nt βe we Q e a' w' ∧ ArrivesIn (Machine.fenced P (Fz ro)) P (lone (b.atR a (.code c :: .inLoop c :: k)) cs w) b k cs e a' w'

theorem LWR.lw {ro : Option Nat} {P : Program} {nt : Nat} {c : Code} {Q : IExit → Env → IHeap → Prop} {env : Env} {H : IHeap} {m : Nat} (hm : m = H.length) (h : LWR ro P nt m c Q env H) : LW ro P nt c Q env H := by
  subst hm
  intro n0 β w a S hT hM
  exact h β w S.dom (fun id hh => (S.held id hh).1) n0 β w a (Step.refl _ _) S hT hM

theorem recast_step {m : Nat} {ks : List Nat} {env env2 : Env} {H H2 : IHeap} (R : Recast m ks env H env2 H2) {βe β : Emb} {we w : World} (hd : ∀ id l, βe.loc id = some l → id < m) (St : Step βe we β w) : Step βe we { w0 := β.w0, loc := recLoc m ks β.loc, held := β.held } w where
  le := ⟨St.le.1, fun id l hl => by
    have h1 := St.le.2 id l hl
    show recLoc m ks β.loc id = some l
    unfold recLoc
    rw [if_pos (hd id l hl)]
    exact h1⟩
  size := St.size
  newb := fun j l hl => by
    rcases recLoc_src hl with ⟨_, h2⟩ | ⟨_, k, _, h3⟩
    · exact St.newb _ _ h2
    · exact St.newb _ _ h3
  frame := St.frame

theorem Recast.trel {m : Nat} {ks : List Nat} {env env2 : Env} {H H2 : IHeap} (R : Recast m ks env H env2 H2) {L : LMap} {nt : Nat} {tm : Array Value} (hT : TRel L nt env tm) : TRel (recLoc m ks L) nt env2 tm :=
  ⟨hT.1, fun t ht => by
    rcases R.env t with e | ⟨e, hi⟩
    · rw [e]; exact .any _
    · rw [e]; exact rel_ren (fun i l hi h => recLoc_sig hi h) (hT.2 t ht) hi⟩

theorem recast_mk {m : Nat} {ks : List Nat} {β : Emb} {w : World} {n0 : Nat} {ds : List Deferred} (h : Mk n0 β w ds) : Mk n0 { w0 := β.w0, loc := recLoc m ks β.loc, held := β.held } w ds := by
  refine ⟨h.1, ?_⟩
  have go : ∀ ds : List Deferred, MkL n0 β w ds → MkL n0 { w0 := β.w0, loc := recLoc m ks β.loc, held := β.held } w ds := by
    intro ds
    induction ds with
    | nil => intro _; trivial
    | cons d ds ih =>
      rintro ⟨⟨r, h1, ⟨h2, h3, h4⟩, h5⟩, h6⟩
      refine ⟨⟨r, h1, ⟨h2, fun id l hl => ?_, h4⟩, h5⟩, ih h6⟩
      rcases recLoc_src hl with ⟨_, k2⟩ | ⟨_, k, _, k3⟩
      · exact h3 _ _ k2
      · exact h3 _ _ k3
  exact go _ h.2

/-- One round; behind it ids are given anew. -/
theorem lwr_step {ro : Option Nat} {P : Program} {nt m : Nat} {c : Code} {Q : IExit → Env → IHeap → Prop} {env : Env} {H : IHeap}
    (h : IW ro P nt c (thn (fun env' H' => ∃ ks env2 H2, Recast m ks env' H' env2 H2 ∧ LWR ro P nt m c Q env2 H2) (fun e env' H' => (∀ v, e ≠ .panic v) ∧ ∃ ks env2 H2, Recast m ks env' H' env2 H2 ∧ Q e env2 H2)) env H) : LWR ro P nt m c Q env H := by
  intro βe we hd hh n0 β w a St S hT hM b k cs hro hb hr
  obtain ⟨e, a₁, w₁, hq, harr⟩ := h n0 β w a S hT hM b (.inLoop c :: k) cs hro hb hr
  have heldOk : ∀ {β' : Emb}, Step βe we β' w₁ → ∀ id, β'.held id → id < m := fun St' id h => hh id (by have := St'.le.1.2; rw [← this]; exact h)
  cases e with
  | normal =>
    obtain ⟨β', H', env', St1, S', hT', hM', ks, env2, H2, R, hn⟩ := hq
    have St' := St.trans St1
    obtain ⟨e₂, a₂, w₂, hq₂, harr₂⟩ := hn βe we hd hh n0 _ w₁ a₁ (recast_step R hd St') (R.sim S' (heldOk St')) (R.trel hT') (recast_mk hM') b k cs hro hb hr
    exact ⟨e₂, a₂, w₂, hq₂, .of_steps (StepsIn.trans harr (.one (fenced_calm hb hr rfl) stepR_inLoop)) harr₂⟩
  | exit id =>
    obtain ⟨β', H', env', St1, S', hT', hM', _, ks, env2, H2, R, hn⟩ := hq
    have St' := St.trans St1
    exact ⟨.exit id, a₁, w₁, ⟨_, H2, env2, recast_step R hd St', R.sim S' (heldOk St'), R.trel hT', recast_mk hM', hn⟩, .pass (x := .inLoop c) rfl (fun _ _ => .inl (by simp)) harr⟩
  | goto l => exact hq.elim
  | ret =>
    obtain ⟨β', H', env', St1, S', hT', hM', _, ks, env2, H2, R, hn⟩ := hq
    have St' := St.trans St1
    exact ⟨.ret, a₁, w₁, ⟨_, H2, env2, recast_step R hd St', R.sim S' (heldOk St'), R.trel hT', recast_mk hM', hn⟩, .pass (x := .inLoop c) rfl (fun _ _ => .inl (by simp)) harr⟩
  | panic ch =>
    obtain ⟨β', H', env', v, v', _, _, _, _, _, _, hne, _⟩ := hq
    exact absurd rfl (hne v)
  | outgrown => exact hq.elim

/-- One round of a loop, laid open by the text. -/
theorem loop_sxr {P : Program} {hs : List Nat} {sc : SCall} {nt m : Nat} {ro : Option Nat} {rf : Bool} (hm : P.follows .mixedOrders = true) (hsc : SOk P sc) (l : List Nat) {L : Code} {Q : IExit → Env → IHeap → Prop} {env : Env} {H : IHeap}
    (hok : codeOk P nt rf L = true)
    (h : sx P hs sc L (thnk l (fun env' H' => ∃ ks env2 H2, Recast m ks env' H' env2 H2 ∧ LWR ro P nt m L Q env2 H2) (fun e env' H' => ∃ ks env2 H2, Recast m ks env' H' env2 H2 ∧ Q e env2 H2)) env H) : LWR ro P nt m L Q env H := by
  refine lwr_step (IW.kept l (fun env' H' => ∃ ks env2 H2, Recast m ks env' H' env2 H2 ∧ LWR ro P nt m L Q env2 H2) (fun env H h => h) (IW.mono (sx_sound (ro := ro) hm hsc L _ _ _ hok h) fun e env' H' hq => ?_))
  cases e with
  | normal => exact hq
  | exit id => exact ⟨(fun v h => by cases h), hq⟩
  | ret => exact ⟨(fun v h => by cases h), hq⟩
  | panic v => exact hq.elim

end Ide
