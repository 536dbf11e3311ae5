/- The next life; equal ends; the law SessStarts over an end. -/
import Derived.Test.YtoikiogaiikheaaSessD
set_option linter.unusedVariables false
set_option linter.unusedSimpArgs false
set_option maxRecDepth 10000
namespace Go.Proofs.Ytoikiogaiikheaa.Sess
open Go Go.RowKit Ide Go.Proofs

def agL (g : Bool) (n : Int) : Int := if g = true then (if n = 1000000000 then 0 else stL (IntKind.wrap .i64 (n + 1))) else 0
def agP (g : Bool) (n : Int) : Int := if g = true then (if n = 1000000000 then 0 else stP (IntKind.wrap .i64 (n + 1))) else 0
def agE (g : Bool) (n : Int) : Int := if g = true then (if n = 1000000000 then 3 else stE (IntKind.wrap .i64 (n + 1))) else 2
def againS (g : Bool) (n : Int) : Value := .tuple ⟨[endN (agL g n) (agP g n), .int .i64 (agE g n)]⟩

def scAgain (e : SE) : SCall := fun g args H K =>
  bif Nat.beq g 9 then (match args with | [.int .i64 n] => K (startS n) H | _ => False)
  else bif Nat.beq g 11 then (match args with | [.int .i64 n] => K (startS n) H | _ => False)
  else bif Nat.beq g 22 then args = [endV e] ∧ H[0]? = some (.cells (outC e.outs) false) ∧ H[1]? = some (.cells (inC e.ins) false) ∧ K (.bool (goodS e)) H
  else bif Nat.beq g 36 then args = [endV e] ∧ H[0]? = some (.cells (outC e.outs) false) ∧ H[1]? = some (.cells (inC e.ins) false) ∧ K (.bool (fineS e)) H
  else False
theorem scAgain_ok {e : SE} (w : Wf e) : SOk Pr (scAgain e) := by
  intro g args H K h
  unfold scAgain at h
  rcases bif2 h with ⟨hg, h⟩ | ⟨_, h⟩
  · have := Nat.eq_of_beq_eq_true hg
    subst this
    split at h
    · exact (start_ok _ H).mono fun r H' hr => ⟨_, hr.1, by rw [hr.2]; exact h⟩
    · exact h.elim
  · rcases bif2 h with ⟨hg, h⟩ | ⟨_, h⟩
    · have := Nat.eq_of_beq_eq_true hg
      subst this
      split at h
      · exact (sstart_ok _ H).mono fun r H' hr => ⟨_, hr.1, by rw [hr.2]; exact h⟩
      · exact h.elim
    · rcases bif2 h with ⟨hg, rfl, h0, h1, hk⟩ | ⟨_, h⟩
      · have := Nat.eq_of_beq_eq_true hg
        subst this
        exact (good_ok w h0 h1).mono fun r H' hr => ⟨_, hr.1, by rw [hr.2]; exact hk⟩
      · obtain ⟨hg, rfl, h0, h1, hk⟩ := bifF h
        have := Nat.eq_of_beq_eq_true hg
        subst this
        exact (fine_ok w h0 h1).mono fun r H' hr => ⟨_, hr.1, by rw [hr.2]; exact hk⟩

theorem again_ok {e : SE} (w : Wf e) {H : IHeap} (h0 : H[0]? = some (.cells (outC e.outs) false)) (h1 : H[1]? = some (.cells (inC e.ins) false)) : ICalls Pr 10 [endV e] H (fun r H' => r = .ret (againS (goodS e) e.life) ∧ H' = H) := by
  refine lift1 rfl (icalls_sx (by kernel_rfl) (iwl_last (hs := []) (rf := true) mixed (scAgain_ok w) _ (by kernel_rfl) ?_)) h0 h1
  refine Eq.mp (α := ([endV e] = [endV e] ∧ (some (.cells (outC e.outs) false) : Option IObj) = some (.cells (outC e.outs) false) ∧ (some (.cells (inC e.ins) false) : Option IObj) = some (.cells (inC e.ins) false) ∧ (Ide.bcase (!(goodS e))
 (IEnd.ret (Value.tuple ⟨[Value.agg ⟨[Value.int IntKind.i64 0, Value.int IntKind.i64 0, Value.int IntKind.i64 0, Value.int IntKind.i64 0, Value.slice none 0 0, Value.int IntKind.i64 0, Value.slice none 0 0]⟩, Value.int IntKind.i64 2]⟩) = IEnd.ret (againS (goodS e) e.life))
 (Ide.bcase (e.life == 1000000000)
 (IEnd.ret (Value.tuple ⟨[Value.agg ⟨[Value.int IntKind.i64 0, Value.int IntKind.i64 0, Value.int IntKind.i64 0, Value.int IntKind.i64 0, Value.slice none 0 0, Value.int IntKind.i64 0, Value.slice none 0 0]⟩, Value.int IntKind.i64 3]⟩) = IEnd.ret (againS (goodS e) e.life))
 (IEnd.ret (Value.tuple ⟨[Value.agg ⟨[Value.int IntKind.i64 (stL (IntKind.wrap .i64 (e.life + 1))), Value.int IntKind.i64 0, Value.int IntKind.i64 (stP (IntKind.wrap .i64 (e.life + 1))), Value.int IntKind.i64 0, Value.slice none 0 0, Value.int IntKind.i64 0, Value.slice none 0 0]⟩, Value.int IntKind.i64 (stE (IntKind.wrap .i64 (e.life + 1)))]⟩) = IEnd.ret (againS (goodS e) e.life)))))) (by kernel_rfl) ?_
  refine And.intro rfl (And.intro rfl (And.intro rfl (bcI (fun h => ?_) (fun h => bcI (fun h2 => ?_) (fun h2 => ?_))))) <;> simp_all [againS, agL, agP, agE, endN]

theorem sagain_ok {e : SE} (w : Wf e) {H : IHeap} (h0 : H[0]? = some (.cells (outC e.outs) false)) (h1 : H[1]? = some (.cells (inC e.ins) false)) : ICalls Pr 12 [endV e] H (fun r H' => r = .ret (againS (fineS e) e.life) ∧ H' = H) := by
  refine lift1 rfl (icalls_sx (by kernel_rfl) (iwl_last (hs := []) (rf := true) mixed (scAgain_ok w) _ (by kernel_rfl) ?_)) h0 h1
  refine Eq.mp (α := ([endV e] = [endV e] ∧ (some (.cells (outC e.outs) false) : Option IObj) = some (.cells (outC e.outs) false) ∧ (some (.cells (inC e.ins) false) : Option IObj) = some (.cells (inC e.ins) false) ∧ (Ide.bcase (!(fineS e))
 (IEnd.ret (Value.tuple ⟨[Value.agg ⟨[Value.int IntKind.i64 0, Value.int IntKind.i64 0, Value.int IntKind.i64 0, Value.int IntKind.i64 0, Value.slice none 0 0, Value.int IntKind.i64 0, Value.slice none 0 0]⟩, Value.int IntKind.i64 2]⟩) = IEnd.ret (againS (fineS e) e.life))
 (Ide.bcase (e.life == 1000000000)
 (IEnd.ret (Value.tuple ⟨[Value.agg ⟨[Value.int IntKind.i64 0, Value.int IntKind.i64 0, Value.int IntKind.i64 0, Value.int IntKind.i64 0, Value.slice none 0 0, Value.int IntKind.i64 0, Value.slice none 0 0]⟩, Value.int IntKind.i64 3]⟩) = IEnd.ret (againS (fineS e) e.life))
 (IEnd.ret (Value.tuple ⟨[Value.agg ⟨[Value.int IntKind.i64 (stL (IntKind.wrap .i64 (e.life + 1))), Value.int IntKind.i64 0, Value.int IntKind.i64 (stP (IntKind.wrap .i64 (e.life + 1))), Value.int IntKind.i64 0, Value.slice none 0 0, Value.int IntKind.i64 0, Value.slice none 0 0]⟩, Value.int IntKind.i64 (stE (IntKind.wrap .i64 (e.life + 1)))]⟩) = IEnd.ret (againS (fineS e) e.life)))))) (by kernel_rfl) ?_
  refine And.intro rfl (And.intro rfl (And.intro rfl (bcI (fun h => ?_) (fun h => bcI (fun h2 => ?_) (fun h2 => ?_))))) <;> simp_all [againS, agL, agP, agE, endN]

/-! ### SameEnd, of ends without messages -/
noncomputable def A13 : List Code := (sp 13).take 4
noncomputable def B13 : List Code := ((sp 13).drop 5).take 1
noncomputable def C13 : List Code := (sp 13).drop 7
noncomputable def L13a : Code := loopOf (sp 13) 4
noncomputable def L13b : Code := loopOf (sp 13) 6
theorem sp13 : Ide.spine (bodyOf Pr 13) [] = A13 ++ .block 0 (.loop L13a) :: (B13 ++ .block 2 (.loop L13b) :: C13) := by kernel_rfl
def sH (a b c d : Int) : IHeap := [.cells [.int .i64 a, .int .i64 0, .int .i64 b, .int .i64 0, .slice none 0 0, .int .i64 0, .slice none 0 0] true, .cells [.int .i64 c, .int .i64 0, .int .i64 d, .int .i64 0, .slice none 0 0, .int .i64 0, .slice none 0 0] true]
def q0 : Value := .pointer (some ⟨0, 0, none⟩)
def q1 : Value := .pointer (some ⟨1, 0, none⟩)

theorem same_ok (a b c d : Int) (H : IHeap) : ICalls Pr 13 [endN a b, endN c d] H (fun r H' => r = .ret (.bool (a == c && b == d)) ∧ H' = H) := by
  refine lift0 rfl rfl (icalls_sx (by kernel_rfl) ?_) H
  rw [sp13]
  refine iwl_segk (hs := []) (rf := true) mixed sc0_ok [2, 3, 4, 5] A13 _ _ (by kernel_rfl) ?_
  refine Eq.mp (α := (Ide.bcase (a != c)
 (IEnd.ret (Value.bool false) = .ret (.bool (a == c && b == d)))
 (Ide.bcase (b != d)
 (IEnd.ret (Value.bool false) = .ret (.bool (a == c && b == d)))
 (IWL none Pr 94 (.block 0 (.loop L13a) :: (B13 ++ .block 2 (.loop L13b) :: C13)) (bodyS Pr (ressOf Pr 13) fun r x => r = .ret (.bool (a == c && b == d))) [(2, Value.pointer (some ⟨0, 0, none⟩)), (3, Value.pointer (some ⟨1, 0, none⟩)), (4, Value.bool false), (5, Value.int IntKind.i64 0)] (sH a b c d))))) (by kernel_rfl) ?_
  refine bcI (fun h => ?_) (fun h => bcI (fun h2 => ?_) (fun h2 => ?_))
  · simp_all
  · simp_all
  · refine iwl_loop (loop_sx (hs := []) (rf := true) mixed sc0_ok [2, 3, 4, 5] (by kernel_rfl) (by rfl) ?_)
    refine Eq.mp (α := true = true ∧ sH a b c d = sH a b c d ∧ IWL none Pr 94 (B13 ++ .block 2 (.loop L13b) :: C13) (bodyS Pr (ressOf Pr 13) fun r x => r = .ret (.bool (a == c && b == d))) [(2, q0), (3, q1), (4, .bool false), (5, .int .i64 0)] (sH a b c d)) (by kernel_rfl) ⟨rfl, rfl, ?_⟩
    refine iwl_segk (hs := []) (rf := true) mixed sc0_ok [2, 3, 4, 6] B13 _ _ (by kernel_rfl) ?_
    refine Eq.mp (α := IWL none Pr 94 (.block 2 (.loop L13b) :: C13) (bodyS Pr (ressOf Pr 13) fun r x => r = .ret (.bool (a == c && b == d))) [(2, q0), (3, q1), (4, .bool false), (6, .int .i64 0)] (sH a b c d)) (by kernel_rfl) ?_
    refine iwl_loop (loop_sx (hs := []) (rf := true) mixed sc0_ok [2, 3, 4, 6] (by kernel_rfl) (by rfl) ?_)
    refine Eq.mp (α := true = true ∧ sH a b c d = sH a b c d ∧ IWL none Pr 94 C13 (bodyS Pr (ressOf Pr 13) fun r x => r = .ret (.bool (a == c && b == d))) [(2, q0), (3, q1), (4, .bool false), (6, .int .i64 0)] (sH a b c d)) (by kernel_rfl) ⟨rfl, rfl, ?_⟩
    refine iwl_last (hs := []) (rf := true) mixed sc0_ok C13 (by kernel_rfl) ?_
    refine Eq.mp (α := IEnd.ret (.bool true) = IEnd.ret (.bool (a == c && b == d))) (by kernel_rfl) ?_
    simp_all

/-! ### works -/
def worksFns : List FuncId := [8,11,12,16,17,18,20,27,29,30,31,32,33,34,36,42,43,44,45,46,47,48,49,54,55,56,57,65,66,67,68,70,71,74,75,79,80,81,82,83,84,85]
theorem worksFns_ok : worksFns.all (fnOk Pr) = true := by kernel_rfl
theorem works_true : xtrue Pr worksFns 400 30 8 = true := by kernel_rfl
theorem works_ok (H : IHeap) : ICalls Pr 8 [] H (fun r H' => r = .ret (.bool true) ∧ H' = H) := by
  refine lift0 rfl rfl ?_ H
  have hx := works_true
  unfold xtrue at hx
  split at hx
  · rename_i h' hh
    obtain ⟨H', _, hc⟩ := xfun_sound mixed worksFns_ok 400 30 _ _ _ _ _ hh [] ⟨rfl, fun i => by simp [Tr.get]⟩
    exact ICalls.mono (show ICalls Pr 8 [] [] _ from hc) fun r H' h => h.1
  · cases hx

/-! ### the law -/
def scLaw (e : SE) : SCall := fun g args H K =>
  bif Nat.beq g 7 then args = [endV e] ∧ H[0]? = some (.cells (outC e.outs) false) ∧ H[1]? = some (.cells (inC e.ins) false) ∧ K (.bool (wideS e)) H
  else bif Nat.beq g 8 then (match args with | [] => K (.bool true) H | _ => False)
  else bif Nat.beq g 9 then (match args with | [.int .i64 n] => K (startS n) H | _ => False)
  else bif Nat.beq g 10 then args = [endV e] ∧ H[0]? = some (.cells (outC e.outs) false) ∧ H[1]? = some (.cells (inC e.ins) false) ∧ K (againS (goodS e) e.life) H
  else bif Nat.beq g 11 then (match args with | [.int .i64 n] => K (startS n) H | _ => False)
  else bif Nat.beq g 12 then args = [endV e] ∧ H[0]? = some (.cells (outC e.outs) false) ∧ H[1]? = some (.cells (inC e.ins) false) ∧ K (againS (fineS e) e.life) H
  else bif Nat.beq g 13 then ∃ a b c d, args = [endN a b, endN c d] ∧ K (.bool (a == c && b == d)) H
  else False
theorem scLaw_ok {e : SE} (w : Wf e) : SOk Pr (scLaw e) := by
  intro g args H K h
  unfold scLaw at h
  rcases bif2 h with ⟨hg, rfl, h0, h1, hk⟩ | ⟨_, h⟩
  · have := Nat.eq_of_beq_eq_true hg
    subst this
    exact (wide_ok w h0 h1).mono fun r H' hr => ⟨_, hr.1, by rw [hr.2]; exact hk⟩
  rcases bif2 h with ⟨hg, h⟩ | ⟨_, h⟩
  · have := Nat.eq_of_beq_eq_true hg
    subst this
    split at h
    · exact (works_ok H).mono fun r H' hr => ⟨_, hr.1, by rw [hr.2]; exact h⟩
    · exact h.elim
  rcases bif2 h with ⟨hg, h⟩ | ⟨_, h⟩
  · have := Nat.eq_of_beq_eq_true hg
    subst this
    split at h
    · exact (start_ok _ H).mono fun r H' hr => ⟨_, hr.1, by rw [hr.2]; exact h⟩
    · exact h.elim
  rcases bif2 h with ⟨hg, rfl, h0, h1, hk⟩ | ⟨_, h⟩
  · have := Nat.eq_of_beq_eq_true hg
    subst this
    exact (again_ok w h0 h1).mono fun r H' hr => ⟨_, hr.1, by rw [hr.2]; exact hk⟩
  rcases bif2 h with ⟨hg, h⟩ | ⟨_, h⟩
  · have := Nat.eq_of_beq_eq_true hg
    subst this
    split at h
    · exact (sstart_ok _ H).mono fun r H' hr => ⟨_, hr.1, by rw [hr.2]; exact h⟩
    · exact h.elim
  rcases bif2 h with ⟨hg, rfl, h0, h1, hk⟩ | ⟨_, h⟩
  · have := Nat.eq_of_beq_eq_true hg
    subst this
    exact (sagain_ok w h0 h1).mono fun r H' hr => ⟨_, hr.1, by rw [hr.2]; exact hk⟩
  obtain ⟨hg, a, b, c, d, rfl, hk⟩ := bifF h
  have := Nat.eq_of_beq_eq_true hg
  subst this
  exact (same_ok a b c d H).mono fun r H' hr => ⟨_, hr.1, by rw [hr.2]; exact hk⟩

/-! ### the two definitions agree -/
def inR (x : Int) : Prop := -9223372036854775808 ≤ x ∧ x ≤ 9223372036854775807

theorem okO_fO {F : Int} {op : Bool} : ∀ (l : List (ByteArray × Bool)) (i : Nat), (∀ j : Nat, i ≤ j → j < i + l.length → ((1 ≤ j ∧ (j : Int) < F) ↔ (op = true ∧ j ≠ 0 ∧ j < 4))) → okO F i l = fO op i l
  | [], i, h => rfl
  | x :: l, i, h => by
    have h1 := okO_fO l (i + 1) (fun j h1 h2 => h j (by omega) (by simp only [List.length_cons]; omega))
    have h2 := h i (Nat.le_refl _) (by simp only [List.length_cons]; omega)
    simp only [okO, fO, h1]
    have e1 : decide (x.1.size ≤ 20) = !(decide (((x.1.size : Nat) : Int) > 20)) := by
      rw [Bool.eq_iff_iff]; simp; omega
    have e2 : (decide (1 ≤ i) && decide ((i : Int) < F)) = (op && !(((i : Nat) : Int) == 0) && !(decide (((i : Nat) : Int) ≥ 4))) := by
      rw [Bool.eq_iff_iff]
      simp only [Bool.and_eq_true, decide_eq_true_eq, Bool.not_eq_true', beq_eq_false_iff_ne, decide_eq_false_iff_not]
      constructor
      · intro hh
        have := h2.1 hh
        exact ⟨⟨this.1, by omega⟩, by omega⟩
      · intro hh
        exact h2.2 ⟨hh.1.1, by omega, by omega⟩
    rw [e1, e2]

theorem okI_fI {w : Int} (hw : 0 ≤ w ∧ w ≤ 1000000000) : ∀ (l : List (Int × ByteArray)) (last : Int), (∀ x ∈ l, inR x.1) → w ≤ last → last ≤ 1000000000 → okI w last l = fI w (IntKind.wrap .i64 (last + 1)) l
  | [], last, _, _, _ => rfl
  | x :: l, last, hr, h1, h2 => by
    have hx := hr x (by simp)
    unfold inR at hx
    simp only [okI, fI]
    rw [wrap_i64 (x := last + 1) (by omega) (by omega), wrap_i64 (x := w + 4) (by omega) (by omega)]
    by_cases g1 : last < x.1
    · rw [wrap_i64 (x := x.1 - w) (by omega) (by omega)]
      have e1 : decide (last < x.1) = !(decide (x.1 < last + 1)) := by rw [Bool.eq_iff_iff]; simp; omega
      have e2 : decide (x.2.size ≤ 20) = !(decide (((x.2.size : Nat) : Int) > 20)) := by rw [Bool.eq_iff_iff]; simp; omega
      have e3 : (decide (x.1 - w < 4) && decide (x.1 < 1000000000)) = !(decide (x.1 ≥ (if 1000000000 < w + 4 then 1000000000 else w + 4))) := by
        rw [Bool.eq_iff_iff]
        simp only [Bool.and_eq_true, decide_eq_true_eq, Bool.not_eq_true', decide_eq_false_iff_not]
        split <;> omega
      rw [show (decide (last < x.1) && decide (x.1 - w < 4) && decide (x.1 < 1000000000) && decide (x.2.size ≤ 20) && okI w x.1 l) = (decide (last < x.1) && (decide (x.1 - w < 4) && decide (x.1 < 1000000000)) && decide (x.2.size ≤ 20) && okI w x.1 l) by simp [Bool.and_assoc], e3, e1, e2]
      by_cases g2 : x.1 < 1000000000
      · rw [okI_fI hw l x.1 (fun y hy => hr y (by simp [hy])) (by omega) (by omega)]
      · have : decide (x.1 ≥ (if 1000000000 < w + 4 then 1000000000 else w + 4)) = true := by
          simp only [decide_eq_true_eq]; split <;> omega
        simp [this]
    · have e1 : decide (last < x.1) = false := by simpa using g1
      have e2 : decide (x.1 < last + 1) = true := by simp; omega
      simp [e1, e2]

theorem good_fine {e : SE} (hb : inR e.base) (hw : inR e.want) (hl : e.outs.length ≤ 9223372036854775807) (hi : ∀ x ∈ e.ins, inR x.1) : goodS e = fineS e := by
  unfold inR at hb hw
  by_cases hwant : 0 ≤ e.want ∧ e.want ≤ 1000000000
  · have hI : insS e = fI e.want (IntKind.wrap .i64 (e.want + 1)) e.ins := okI_fI hwant e.ins e.want hi (Int.le_refl _) hwant.2
    have hO : outsS e = (decide (e.outs.length ≤ 12) && fO (e.phase == 3) 0 e.outs) := by
      unfold outsS
      congr 1
      refine okO_fO e.outs 0 fun j _ hj => ?_
      unfold flyS
      by_cases hp : e.phase = 3
      · simp only [hp, if_true, BEq.rfl, true_and]
        split <;> omega
      · simp only [hp, if_false]
        have : (e.phase == 3) = false := by simpa using hp
        simp only [this]
        constructor
        · intro h; omega
        · intro h; cases h.1
    have hnil : ¬ ((e.ins.length : Nat) : Int) > 0 → fI e.want (IntKind.wrap .i64 (e.want + 1)) e.ins = true := by
      intro h
      have : e.ins = [] := List.length_eq_zero_iff.1 (by omega)
      rw [this]
      rfl
    by_cases hbase : 0 ≤ e.base ∧ e.base ≤ 1000000000
    · unfold goodS fineS fine1S fine2S
      rw [hI, hO, wrap_i64 (x := 1000000000 - e.base) (by omega) (by omega), wrap_i64 (x := 1000000000 - ((e.outs.length : Nat) : Int)) (by omega) (by omega)]
      generalize fI e.want (IntKind.wrap .i64 (e.want + 1)) e.ins = A at *
      rw [Bool.eq_iff_iff]
      by_cases hp : e.phase = 3
      · rw [hp]
        generalize fO ((3 : Int) == 3) 0 e.outs = B
        simp only [inS, Bool.and_eq_true, Bool.not_eq_true', decide_eq_true_eq, decide_eq_false_iff_not, BEq.rfl, cond_true, Bool.true_or, Bool.and_true]
        have e13 : ((3 : Int) == 1) = false := rfl
        rw [e13]
        constructor
        · rintro ⟨⟨⟨⟨⟨⟨h1, h2⟩, h3⟩, h4⟩, h5, h6⟩, h7⟩, h8, h9⟩
          have hpe : (e.peer == 0) = false := by simp; omega
          rw [hpe]
          refine ⟨⟨⟨⟨⟨⟨⟨⟨⟨⟨⟨⟨⟨?_, ?_⟩, ?_⟩, ?_⟩, rfl⟩, ?_⟩, ?_⟩, ?_⟩, ?_⟩, ?_⟩, ?_⟩, ?_⟩, h9⟩, h6⟩ <;> omega
        · rintro ⟨⟨⟨⟨⟨⟨⟨⟨⟨⟨⟨⟨⟨h1, h2⟩, h3⟩, h4⟩, h5⟩, h6⟩, h7⟩, h8⟩, h9⟩, h10⟩, h11⟩, h12⟩, h13⟩, h14⟩
          have hpe : ¬ e.peer = 0 := by
            intro h
            rw [h] at h5
            cases h5
          refine ⟨⟨⟨⟨⟨⟨⟨?_, ?_⟩, ?_, ?_⟩, ?_, ?_⟩, ?_, ?_⟩, ?_, h14⟩, ?_⟩, ?_, h13⟩ <;> omega
      · have hp3 : (e.phase == 3) = false := by simpa using hp
        rw [hp3]
        generalize fO false 0 e.outs = B
        simp only [inS, Bool.and_eq_true, Bool.not_eq_true', Bool.or_eq_true, decide_eq_true_eq, decide_eq_false_iff_not, cond_false, Bool.false_eq_true, false_or, beq_iff_eq, bne_eq_false_iff_eq]
        have key : ((e.phase == 1) == (e.peer == 0)) = true ↔ (e.phase = 1 ↔ e.peer = 0) := by
          rw [beq_iff_eq, Bool.eq_iff_iff, beq_iff_eq, beq_iff_eq]
        have key' : ((e.phase == 1) = (e.peer == 0)) ↔ (e.phase = 1 ↔ e.peer = 0) := by
          rw [Bool.eq_iff_iff, beq_iff_eq, beq_iff_eq]
        rw [key']
        constructor
        · rintro ⟨⟨⟨⟨⟨⟨h1, h2⟩, h3⟩, h4⟩, h5, h6⟩, h7⟩, ⟨⟨h8, h9⟩, h10⟩, h11⟩
          refine ⟨⟨⟨⟨⟨⟨⟨⟨⟨⟨⟨⟨⟨⟨?_, ?_⟩, ?_⟩, ?_⟩, ?_⟩, ?_⟩, ?_⟩, ?_⟩, ?_⟩, ?_⟩, ?_⟩, ?_⟩, hnil h10⟩, ⟨?_, ?_⟩, h10⟩, h6⟩ <;> omega
        · rintro ⟨⟨⟨⟨⟨⟨⟨⟨⟨⟨⟨⟨⟨⟨h1, h2⟩, h3⟩, h4⟩, h5⟩, h6⟩, h7⟩, h8⟩, h9⟩, h10⟩, h11⟩, h12⟩, h13⟩, ⟨h14, h15⟩, h16⟩, h17⟩
          refine ⟨⟨⟨⟨⟨⟨⟨?_, ?_⟩, ?_, ?_⟩, ?_, ?_⟩, ?_, ?_⟩, ?_, h17⟩, ?_⟩, ⟨⟨?_, ?_⟩, h16⟩, ?_⟩ <;> omega
    · have e1 : inS e.base 0 1000000000 = false := by simp [inS]; omega
      have e2 : fine1S e = false := by
        unfold fine1S
        rw [wrap_i64 (x := 1000000000 - ((e.outs.length : Nat) : Int)) (by omega) (by omega)]
        by_cases h : e.base < 0
        · simp [h]
        · have : decide (e.base > 1000000000 - ((e.outs.length : Nat) : Int)) = true := by simp; omega
          simp [this]
      unfold goodS fineS
      rw [e1, e2]
      simp
  · have e1 : inS e.want 0 1000000000 = false := by simp [inS]; omega
    have e2 : fine1S e = false := by
      unfold fine1S
      by_cases h : e.want < 0
      · simp [h]
      · have : decide (e.want > 1000000000) = true := by simp; omega
        simp [this]
    unfold goodS fineS
    rw [e1, e2]
    simp

theorem law_ok (life : Int) {e : SE} (w : Wf e) (hb : inR e.base) (hw : inR e.want) (hi : ∀ x ∈ e.ins, inR x.1) : ICalls Pr 3 [.int .i64 life, endV e] (endH e) (fun r _ => r = .ret (.bool true)) := by
  refine icalls_sx (by kernel_rfl) (iwl_last (hs := []) (rf := true) mixed (scLaw_ok w) _ (by kernel_rfl) ?_)
  refine Eq.mp (α := ([endV e] = [endV e] ∧ (some (.cells (outC e.outs) false) : Option IObj) = some (.cells (outC e.outs) false) ∧ (some (.cells (inC e.ins) false) : Option IObj) = some (.cells (inC e.ins) false) ∧ (Ide.bcase (wideS e)
 (IEnd.ret (Value.bool true) = IEnd.ret (.bool true))
 ([endV e] = [endV e] ∧ (some (.cells (outC e.outs) false) : Option IObj) = some (.cells (outC e.outs) false) ∧ (some (.cells (inC e.ins) false) : Option IObj) = some (.cells (inC e.ins) false) ∧ ([endV e] = [endV e] ∧ (some (.cells (outC e.outs) false) : Option IObj) = some (.cells (outC e.outs) false) ∧ (some (.cells (inC e.ins) false) : Option IObj) = some (.cells (inC e.ins) false) ∧ (∃ a b c d : Int, [endN (stL life) (stP life), endN (stL life) (stP life)] = [endN a b, endN c d] ∧ (Ide.bcase (a == c && b == d)
 (Ide.bcase ((stE life) == (stE life))
 (∃ a b c d : Int, [endN (agL (fineS e) e.life) (agP (fineS e) e.life), endN (agL (goodS e) e.life) (agP (goodS e) e.life)] = [endN a b, endN c d] ∧ (Ide.bcase (a == c && b == d)
 (Ide.bcase ((agE (fineS e) e.life) == (agE (goodS e) e.life))
 (IEnd.ret (Value.bool true) = IEnd.ret (.bool true))
 (IEnd.ret (Value.bool false) = IEnd.ret (.bool true)))
 (IEnd.ret (Value.bool false) = IEnd.ret (.bool true))))
 (IEnd.ret (Value.bool false) = IEnd.ret (.bool true)))
 (IEnd.ret (Value.bool false) = IEnd.ret (.bool true))))))))) (by kernel_rfl) ?_
  have hgf := good_fine hb hw w.on hi
  refine And.intro rfl (And.intro rfl (And.intro rfl (bcI (fun h => rfl) (fun h => And.intro rfl (And.intro rfl (And.intro rfl (And.intro rfl (And.intro rfl (And.intro rfl ?_)))))))))
  refine ⟨_, _, _, _, rfl, bcI (fun h1 => bcI (fun h2 => ?_) (fun h2 => ?_)) (fun h1 => ?_)⟩
  · rw [hgf]
    refine ⟨_, _, _, _, rfl, bcI (fun h3 => bcI (fun h4 => rfl) (fun h4 => ?_)) (fun h3 => ?_)⟩
    · simp at h4
    · simp at h3
  · simp at h2
  · simp at h1

end Go.Proofs.Ytoikiogaiikheaa.Sess
