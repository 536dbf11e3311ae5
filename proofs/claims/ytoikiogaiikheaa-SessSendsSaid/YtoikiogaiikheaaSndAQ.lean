/- has, bits, report, greeting, data: what an end says. -/
import Derived.Test.YtoikiogaiikheaaSndAO
import Derived.Test.YtoikiogaiikheaaSndAP
import Derived.Test.YtoikiogaiikheaaSndAN
set_option linter.unusedSectionVars false
set_option linter.unusedVariables false
set_option linter.unusedSimpArgs false
set_option maxRecDepth 10000
namespace Go.Proofs.Ytoikiogaiikheaa.Sess
open Go Go.RowKit Ide Go.Proofs

/-- An end whose lists lie at some ids. -/
def endAt (e : SE) (i j : Nat) : Value := .agg ⟨endW e (adr e.oz i) (adr e.iz j)⟩
def endR (e : SE) (r1 r2 : Bool) : IHeap := [.cells (outC e.outs) r1, .cells (inC e.ins) r2]
/-- The lists of an end are there. -/
structure Has (e : SE) (i j : Nat) (r1 r2 : Bool) (H : IHeap) : Prop where
  out : e.oz = false → H[i]? = some (.cells (outC e.outs) r1)
  inn : e.iz = false → H[j]? = some (.cells (inC e.ins) r2)
  ne : e.oz = false → e.iz = false → i ≠ j

theorem plain_endR (e : SE) (r1 r2 : Bool) : (endR e r1 r2).all plainO = true := by simp [endR, plainO, ground_outC, ground_inC]

/-- A contract over one end, and plain values, in every heap. -/
theorem liftE {f : FuncId} {e : SE} {r1 r2 : Bool} {more : List Value} {v : Value} (hv : plainV v = true) (hm : ground.groundL more = true)
    (h : ICalls Pr f (endAt e 0 1 :: more) (endR e r1 r2) (fun r H' => r = .ret v ∧ H'.take 2 = endR e r1 r2)) {i j : Nat} {H : IHeap} (hh : Has e i j r1 r2 H) :
    ICalls Pr f (endAt e i j :: more) H (fun r H' => r = .ret v ∧ H' = H) := by
  have h2 : ICalls Pr f (endAt e 0 1 :: more) (endR e r1 r2) (fun r H' => r = .ret v ∧ ∀ (k : Nat) (o : IObj), (endR e r1 r2)[k]? = some o → o.own = true → H'[k]? = some o) := by
    refine h.mono fun r H' hr => ⟨hr.1, fun k o ho hown => ?_⟩
    have hk : k < 2 := (List.getElem?_eq_some_iff.1 ho).1
    have : (H'.take 2)[k]? = some o := by rw [hr.2]; exact ho
    rw [List.getElem?_take, if_pos hk] at this
    exact this
  let ρ : Nat → Nat := fun k => bif Nat.beq k 0 then i else j
  let use : Nat → Bool := fun k => bif Nat.beq k 0 then !e.oz else !e.iz
  have h3 := h2.frameU ρ use (plainV_rel hv) (H := H) (plain_endR e r1 r2) ?_ ?_ ?_
  · have e1 : renV.goL ρ (endAt e 0 1 :: more) = endAt e i j :: more := by
      have e2 : renV.goL ρ more = more := by
        exact renVs_ground ρ more hm
      show renV ρ (endAt e 0 1) :: renV.goL ρ more = _
      rw [e2]
      congr 1
      cases e with | mk a b c d w oz iz outs ins => cases oz <;> cases iz <;> rfl
    rw [e1] at h3
    exact h3
  · show (idV _ (endAt e 0 1) && idV.goL _ more) = true
    have e2 : idV.goL (fun i => Nat.blt i (endR e r1 r2).length && use i) more = true := idVs_ground _ more hm
    rw [e2]
    cases e with | mk a b c d w oz iz outs ins => cases oz <;> cases iz <;> rfl
  · intro k hk hu
    match k, hk with
    | 0, _ => exact hh.out (by simpa [use] using hu)
    | 1, _ => exact hh.inn (by simpa [use] using hu)
    | k + 2, hk => exact absurd hk (by simp [endR])
  · intro a b ha hb ua ub hab
    match a, b, ha, hb with
    | 0, 0, _, _ => rfl
    | 1, 1, _, _ => rfl
    | 0, 1, _, _ => exact absurd hab (hh.ne (by simpa [use] using ua) (by simpa [use] using ub))
    | 1, 0, _, _ => exact absurd hab.symm (hh.ne (by simpa [use] using ub) (by simpa [use] using ua))
    | a + 2, _, ha, _ => exact absurd ha (by simp [endR])
    | 0, b + 2, _, hb => exact absurd hb (by simp [endR])
    | 1, b + 2, _, hb => exact absurd hb (by simp [endR])

def wHr (e : SE) (a1 a2 : Option Addr) (r1 r2 : Bool) : IHeap := [.cells (outC e.outs) r1, .cells (inC e.ins) r2, .cells (endW e a1 a2) true]
theorem wHr_in (e : SE) (z1 z2 r1 r2 : Bool) : (wHr e (adr z1 0) (adr z2 1) r1 r2).all (inO 3) = true := by
  have h1 := inVs_ground 3 _ (ground_outC e.outs)
  have h2 := inVs_ground 3 _ (ground_inC e.ins)
  show (inV.goL 3 (outC e.outs) && (inV.goL 3 (inC e.ins) && (inV.goL 3 (endW e (adr z1 0) (adr z2 1)) && true))) = true
  rw [h1, h2]
  cases z1 <;> cases z2 <;> rfl

/-! ### has -/
/-- Where a number is among those that came early; -1: nowhere. -/
def hasI (num : Int) : Nat → List (Int × ByteArray) → Int
  | _, [] => -1
  | i, x :: l => if x.1 = num then (i : Int) else hasI num (i + 1) l

noncomputable def A72 : List Code := (sp 72).take 2
noncomputable def C72 : List Code := (sp 72).drop 3
noncomputable def L72 : Code := loopOf (sp 72) 2
theorem sp72 : Ide.spine (bodyOf Pr 72) [] = A72 ++ .block 0 (.loop L72) :: C72 := by kernel_rfl

theorem has_lz (e : SE) (r1 r2 : Bool) (num : Int) (Qb : IExit → Env → IHeap → Prop) (ho : e.ins = []) (hx : Qb (.exit 0) [(1, .int .i64 num), (2, p2), (4, .int .i64 0), (5, .int .i64 0)] (wHr e (adr e.oz 0) (adr true 1) r1 r2)) :
    LW none Pr 22 L72 Qb [(1, .int .i64 num), (2, p2), (4, .int .i64 0), (5, .int .i64 0)] (wHr e (adr e.oz 0) (adr true 1) r1 r2) := by
  refine loop_sx (hs := []) (rf := true) mixed sc0_ok [1, 2, 4, 5] (by kernel_rfl) (wHr_in e e.oz true r1 r2) ?_
  obtain ⟨life, peer, phase, base, want, oz, iz, outs, ins⟩ := e
  subst ho
  exact Eq.mp (α := true = true ∧ wHr (SE.mk life peer phase base want oz iz outs []) (adr oz 0) (adr true 1) r1 r2 = wHr (SE.mk life peer phase base want oz iz outs []) (adr oz 0) (adr true 1) r1 r2 ∧ Qb (.exit 0) [(1, .int .i64 num), (2, p2), (4, .int .i64 0), (5, .int .i64 0)] (wHr (SE.mk life peer phase base want oz iz outs []) (adr oz 0) (adr true 1) r1 r2)) (by kernel_rfl) ⟨rfl, rfl, hx⟩

theorem has_l (e : SE) (r1 r2 : Bool) (num : Int) (Qb : IExit → Env → IHeap → Prop) (hn : e.ins.length ≤ 9223372036854775807) : ∀ (post pre : List (Int × ByteArray)), e.ins = pre ++ post →
    (hasI num pre.length post = -1 → Qb (.exit 0) [(1, .int .i64 num), (2, p2), (4, .int .i64 0), (5, .int .i64 e.ins.length)] (wHr e (adr e.oz 0) (adr false 1) r1 r2)) →
    (∀ (i : Int), hasI num pre.length post = i → 0 ≤ i → ∀ k : Int, Qb .ret [(1, .int .i64 num), (2, p2), (4, .int .i64 i), (5, .int .i64 k)] (wHr e (adr e.oz 0) (adr false 1) r1 r2)) →
    LW none Pr 22 L72 Qb [(1, .int .i64 num), (2, p2), (4, .int .i64 0), (5, .int .i64 (pre.length : Nat))] (wHr e (adr e.oz 0) (adr false 1) r1 r2) := by
  intro post
  induction post with
  | nil =>
    intro pre hp hx hr
    refine loop_sx (hs := [18]) (rf := true) mixed sc0_ok [1, 2, 4, 5] (by kernel_rfl) (wHr_in e e.oz false r1 r2) ?_
    refine Eq.mp (α := (Ide.bcase (decide (((pre.length : Nat) : Int) < ((e.ins.length : Nat) : Int)))
 (0 ≤ ((pre.length : Nat) : Int) ∧ ((pre.length : Nat) : Int) < ((e.ins.length : Nat) : Int) ∧ (∃ n1 : Int, (inC e.ins)[((0 + Int.toNat ((pre.length : Nat) : Int) * 2) + 0)]? = some (Value.int IntKind.i64 n1) ∧ (Ide.bcase (n1 == num)
 (true = true ∧ (wHr e (adr e.oz 0) (adr false 1) r1 r2) = (wHr e (adr e.oz 0) (adr false 1) r1 r2) ∧ Qb .ret [(1, Value.int IntKind.i64 num), (2, Value.pointer (some ⟨2, 0, none⟩)), (4, Value.int IntKind.i64 ((pre.length : Nat) : Int)), (5, Value.int IntKind.i64 ((pre.length : Nat) : Int))] (wHr e (adr e.oz 0) (adr false 1) r1 r2))
 (true = true ∧ (wHr e (adr e.oz 0) (adr false 1) r1 r2) = (wHr e (adr e.oz 0) (adr false 1) r1 r2) ∧ LW none Pr 22 L72 Qb [(1, Value.int IntKind.i64 num), (2, Value.pointer (some ⟨2, 0, none⟩)), (4, Value.int IntKind.i64 0), (5, Value.int IntKind.i64 (IntKind.wrap .i64 (((pre.length : Nat) : Int) + 1)))] (wHr e (adr e.oz 0) (adr false 1) r1 r2)))))
 (true = true ∧ (wHr e (adr e.oz 0) (adr false 1) r1 r2) = (wHr e (adr e.oz 0) (adr false 1) r1 r2) ∧ Qb (.exit 0) [(1, Value.int IntKind.i64 num), (2, Value.pointer (some ⟨2, 0, none⟩)), (4, Value.int IntKind.i64 0), (5, Value.int IntKind.i64 ((pre.length : Nat) : Int))] (wHr e (adr e.oz 0) (adr false 1) r1 r2)))) (by kernel_rfl) ?_
    have hl : pre.length = e.ins.length := by rw [hp]; simp
    refine bcI (fun h => ?_) (fun h => ?_)
    · exfalso; simp at h; omega
    · refine ⟨rfl, rfl, ?_⟩
      rw [hl]
      exact hx rfl
  | cons x post ih =>
    intro pre hp hx hr
    refine loop_sx (hs := [18]) (rf := true) mixed sc0_ok [1, 2, 4, 5] (by kernel_rfl) (wHr_in e e.oz false r1 r2) ?_
    refine Eq.mp (α := (Ide.bcase (decide (((pre.length : Nat) : Int) < ((e.ins.length : Nat) : Int)))
 (0 ≤ ((pre.length : Nat) : Int) ∧ ((pre.length : Nat) : Int) < ((e.ins.length : Nat) : Int) ∧ (∃ n1 : Int, (inC e.ins)[((0 + Int.toNat ((pre.length : Nat) : Int) * 2) + 0)]? = some (Value.int IntKind.i64 n1) ∧ (Ide.bcase (n1 == num)
 (true = true ∧ (wHr e (adr e.oz 0) (adr false 1) r1 r2) = (wHr e (adr e.oz 0) (adr false 1) r1 r2) ∧ Qb .ret [(1, Value.int IntKind.i64 num), (2, Value.pointer (some ⟨2, 0, none⟩)), (4, Value.int IntKind.i64 ((pre.length : Nat) : Int)), (5, Value.int IntKind.i64 ((pre.length : Nat) : Int))] (wHr e (adr e.oz 0) (adr false 1) r1 r2))
 (true = true ∧ (wHr e (adr e.oz 0) (adr false 1) r1 r2) = (wHr e (adr e.oz 0) (adr false 1) r1 r2) ∧ LW none Pr 22 L72 Qb [(1, Value.int IntKind.i64 num), (2, Value.pointer (some ⟨2, 0, none⟩)), (4, Value.int IntKind.i64 0), (5, Value.int IntKind.i64 (IntKind.wrap .i64 (((pre.length : Nat) : Int) + 1)))] (wHr e (adr e.oz 0) (adr false 1) r1 r2)))))
 (true = true ∧ (wHr e (adr e.oz 0) (adr false 1) r1 r2) = (wHr e (adr e.oz 0) (adr false 1) r1 r2) ∧ Qb (.exit 0) [(1, Value.int IntKind.i64 num), (2, Value.pointer (some ⟨2, 0, none⟩)), (4, Value.int IntKind.i64 0), (5, Value.int IntKind.i64 ((pre.length : Nat) : Int))] (wHr e (adr e.oz 0) (adr false 1) r1 r2)))) (by kernel_rfl) ?_
    have hl : e.ins.length = pre.length + post.length + 1 := by rw [hp]; simp; omega
    refine bcI (fun h => ?_) (fun h => ?_)
    · refine ⟨by omega, by omega, x.1, ?_, bcI (fun h2 => ?_) (fun h2 => ?_)⟩
      · rw [hp, show 0 + Int.toNat ((pre.length : Nat) : Int) * 2 + 0 = 2 * pre.length by simp; omega]
        exact (inC_get pre x post).1
      · have h2 : x.1 = num := by simpa using h2
        exact ⟨rfl, rfl, hr _ (by simp only [hasI, h2, if_true]) (by omega) _⟩
      · have h2 : ¬ x.1 = num := by simpa using h2
        refine ⟨rfl, rfl, ?_⟩
        rw [wrap_i64 (by omega) (by omega), show ((pre.length : Nat) : Int) + 1 = (((pre ++ [x]).length : Nat) : Int) by simp]
        have hq : hasI num pre.length (x :: post) = hasI num (pre ++ [x]).length post := by simp only [hasI, h2, if_false, List.length_append, List.length_cons, List.length_nil]
        exact ih (pre ++ [x]) (by rw [hp]; simp) (fun h => hx (hq.trans h)) (fun i h => hr i (hq.trans h))
    · exfalso; simp at h; omega

theorem hasI_cases (num : Int) : ∀ (l : List (Int × ByteArray)) (i : Nat), hasI num i l = -1 ∨ 0 ≤ hasI num i l
  | [], _ => .inl rfl
  | x :: l, i => by
    simp only [hasI]
    split
    · exact .inr (by omega)
    · exact hasI_cases num l (i + 1)

theorem has_ok {e : SE} (w : Wf e) (num : Int) {i j : Nat} {r1 r2 : Bool} {H : IHeap} (hh : Has e i j r1 r2 H) : ICalls Pr 72 [endAt e i j, .int .i64 num] H (fun r H' => r = .ret (.int .i64 (hasI num 0 e.ins)) ∧ H' = H) := by
  refine liftE (more := [.int .i64 num]) rfl rfl (icalls_sx (by kernel_rfl) ?_) hh
  rw [sp72]
  refine iwl_segk (hs := []) (rf := true) mixed sc0_ok [1, 2, 4, 5] A72 _ _ (by kernel_rfl) ?_
  refine Eq.mp (α := (IWL none Pr 22 (.block 0 (.loop L72) :: C72) (bodyS Pr (ressOf Pr 72) fun r H' => r = .ret (.int .i64 (hasI num 0 e.ins)) ∧ H'.take 2 = endR e r1 r2) [(1, Value.int IntKind.i64 num), (2, Value.pointer (some ⟨2, 0, none⟩)), (4, Value.int IntKind.i64 0), (5, Value.int IntKind.i64 0)] (wHr e (adr e.oz 0) (adr e.iz 1) r1 r2))) (by kernel_rfl) ?_
  refine iwl_loop ?_
  have fin : ∀ (a : Option Addr) (k : Int), hasI num 0 e.ins = -1 → IWL none Pr 22 C72 (bodyS Pr (ressOf Pr 72) fun r H' => r = .ret (.int .i64 (hasI num 0 e.ins)) ∧ H'.take 2 = endR e r1 r2) [(1, .int .i64 num), (2, p2), (4, .int .i64 0), (5, .int .i64 k)] (wHr e (adr e.oz 0) a r1 r2) := by
    intro a k hk
    refine iwl_last (hs := []) (rf := true) mixed sc0_ok C72 (by kernel_rfl) ?_
    refine Eq.mp (α := IEnd.ret (.int .i64 (-1)) = IEnd.ret (.int .i64 (hasI num 0 e.ins)) ∧ endR e r1 r2 = endR e r1 r2) (by kernel_rfl) ⟨by rw [hk], rfl⟩
  cases hz : e.iz with
  | true =>
    have ho := w.iz hz
    exact has_lz e r1 r2 num _ ho (fin (adr true 1) 0 (by rw [ho]; rfl))
  | false =>
    refine has_l e r1 r2 num _ w.inn e.ins [] rfl (fun h => fin (adr false 1) _ h) (fun i h _ k => ?_)
    refine Eq.mp (α := IEnd.ret (.int .i64 i) = IEnd.ret (.int .i64 (hasI num 0 e.ins)) ∧ endR e r1 r2 = endR e r1 r2) (by kernel_rfl) ⟨?_, rfl⟩
    have h : hasI num 0 e.ins = i := h
    rw [h]

end Go.Proofs.Ytoikiogaiikheaa.Sess

/- bits, greeting, report, data. -/
set_option linter.unusedVariables false
set_option linter.unusedSimpArgs false
set_option maxRecDepth 10000
namespace Go.Proofs.Ytoikiogaiikheaa.Sess
open Go Go.RowKit Ide Go.Proofs

theorem has_pre (e : SE) (r1 r2 : Bool) (rest : IHeap) : Has e 0 1 r1 r2 (.cells (outC e.outs) r1 :: .cells (inC e.ins) r2 :: rest) := ⟨fun _ => rfl, fun _ => rfl, fun _ _ => by decide⟩

/-! ### bits -/
def hb (e : SE) (j : Int) : Bool := decide (hasI (IntKind.wrap .i64 (IntKind.wrap .i64 (e.want + 1) + j)) 0 e.ins ≥ 0)
def bitsS (e : SE) : Int := (if hb e 0 = true then 1 else 0) + (if hb e 1 = true then 2 else 0) + (if hb e 2 = true then 4 else 0)

def scR (e : SE) (r1 r2 : Bool) : SCall := fun g args H K =>
  bif Nat.beq g 72 then (match args with | [v, .int .i64 num] => v = endAt e 0 1 ∧ Has e 0 1 r1 r2 H ∧ K (.int .i64 (hasI num 0 e.ins)) H | _ => False)
  else False
theorem scR_ok {e : SE} (w : Wf e) (r1 r2 : Bool) : SOk Pr (scR e r1 r2) := by
  intro g args H K h
  unfold scR at h
  obtain ⟨hg, hk⟩ := bifF h
  have := Nat.eq_of_beq_eq_true hg
  subst this
  split at hk
  · obtain ⟨rfl, hh, hk⟩ := hk
    exact (has_ok w _ hh).mono fun r H' hr => ⟨_, hr.1, by rw [hr.2]; exact hk⟩
  · exact hk.elim

theorem bits_ok {e : SE} (w : Wf e) {i j : Nat} {r1 r2 : Bool} {H : IHeap} (hh : Has e i j r1 r2 H) : ICalls Pr 69 [endAt e i j] H (fun r H' => r = .ret (.int .i64 (bitsS e)) ∧ H' = H) := by
  refine liftE (more := []) rfl rfl (icalls_sxu (hs := []) 40 mixed (scR_ok w r1 r2) (by kernel_rfl) (by kernel_rfl) ?_) hh
  refine Eq.mp (α := (endAt e 0 1 = endAt e 0 1 ∧ Has e 0 1 r1 r2 [.cells (outC e.outs) r1, .cells (inC e.ins) r2, .cells [Value.int IntKind.i64 e.life, Value.int IntKind.i64 e.peer, Value.int IntKind.i64 e.phase, Value.int IntKind.i64 e.base, Value.slice (adr e.oz 0) e.outs.length e.outs.length, Value.int IntKind.i64 e.want, Value.slice (adr e.iz 1) e.ins.length e.ins.length] true] ∧ (Ide.bcase (decide ((hasI (IntKind.wrap .i64 ((IntKind.wrap .i64 (e.want + 1)) + 0)) 0 e.ins) ≥ 0))
 (endAt e 0 1 = endAt e 0 1 ∧ Has e 0 1 r1 r2 [.cells (outC e.outs) r1, .cells (inC e.ins) r2, .cells [Value.int IntKind.i64 e.life, Value.int IntKind.i64 e.peer, Value.int IntKind.i64 e.phase, Value.int IntKind.i64 e.base, Value.slice (adr e.oz 0) e.outs.length e.outs.length, Value.int IntKind.i64 e.want, Value.slice (adr e.iz 1) e.ins.length e.ins.length] true] ∧ (Ide.bcase (decide ((hasI (IntKind.wrap .i64 ((IntKind.wrap .i64 (e.want + 1)) + 1)) 0 e.ins) ≥ 0))
 (endAt e 0 1 = endAt e 0 1 ∧ Has e 0 1 r1 r2 [.cells (outC e.outs) r1, .cells (inC e.ins) r2, .cells [Value.int IntKind.i64 e.life, Value.int IntKind.i64 e.peer, Value.int IntKind.i64 e.phase, Value.int IntKind.i64 e.base, Value.slice (adr e.oz 0) e.outs.length e.outs.length, Value.int IntKind.i64 e.want, Value.slice (adr e.iz 1) e.ins.length e.ins.length] true] ∧ (Ide.bcase (decide ((hasI (IntKind.wrap .i64 ((IntKind.wrap .i64 (e.want + 1)) + 2)) 0 e.ins) ≥ 0))
 (IEnd.ret (Value.int IntKind.i64 7) = IEnd.ret (.int .i64 (bitsS e)) ∧ endR e r1 r2 = endR e r1 r2)
 (IEnd.ret (Value.int IntKind.i64 3) = IEnd.ret (.int .i64 (bitsS e)) ∧ endR e r1 r2 = endR e r1 r2)))
 (endAt e 0 1 = endAt e 0 1 ∧ Has e 0 1 r1 r2 [.cells (outC e.outs) r1, .cells (inC e.ins) r2, .cells [Value.int IntKind.i64 e.life, Value.int IntKind.i64 e.peer, Value.int IntKind.i64 e.phase, Value.int IntKind.i64 e.base, Value.slice (adr e.oz 0) e.outs.length e.outs.length, Value.int IntKind.i64 e.want, Value.slice (adr e.iz 1) e.ins.length e.ins.length] true] ∧ (Ide.bcase (decide ((hasI (IntKind.wrap .i64 ((IntKind.wrap .i64 (e.want + 1)) + 2)) 0 e.ins) ≥ 0))
 (IEnd.ret (Value.int IntKind.i64 5) = IEnd.ret (.int .i64 (bitsS e)) ∧ endR e r1 r2 = endR e r1 r2)
 (IEnd.ret (Value.int IntKind.i64 1) = IEnd.ret (.int .i64 (bitsS e)) ∧ endR e r1 r2 = endR e r1 r2)))))
 (endAt e 0 1 = endAt e 0 1 ∧ Has e 0 1 r1 r2 [.cells (outC e.outs) r1, .cells (inC e.ins) r2, .cells [Value.int IntKind.i64 e.life, Value.int IntKind.i64 e.peer, Value.int IntKind.i64 e.phase, Value.int IntKind.i64 e.base, Value.slice (adr e.oz 0) e.outs.length e.outs.length, Value.int IntKind.i64 e.want, Value.slice (adr e.iz 1) e.ins.length e.ins.length] true] ∧ (Ide.bcase (decide ((hasI (IntKind.wrap .i64 ((IntKind.wrap .i64 (e.want + 1)) + 1)) 0 e.ins) ≥ 0))
 (endAt e 0 1 = endAt e 0 1 ∧ Has e 0 1 r1 r2 [.cells (outC e.outs) r1, .cells (inC e.ins) r2, .cells [Value.int IntKind.i64 e.life, Value.int IntKind.i64 e.peer, Value.int IntKind.i64 e.phase, Value.int IntKind.i64 e.base, Value.slice (adr e.oz 0) e.outs.length e.outs.length, Value.int IntKind.i64 e.want, Value.slice (adr e.iz 1) e.ins.length e.ins.length] true] ∧ (Ide.bcase (decide ((hasI (IntKind.wrap .i64 ((IntKind.wrap .i64 (e.want + 1)) + 2)) 0 e.ins) ≥ 0))
 (IEnd.ret (Value.int IntKind.i64 6) = IEnd.ret (.int .i64 (bitsS e)) ∧ endR e r1 r2 = endR e r1 r2)
 (IEnd.ret (Value.int IntKind.i64 2) = IEnd.ret (.int .i64 (bitsS e)) ∧ endR e r1 r2 = endR e r1 r2)))
 (endAt e 0 1 = endAt e 0 1 ∧ Has e 0 1 r1 r2 [.cells (outC e.outs) r1, .cells (inC e.ins) r2, .cells [Value.int IntKind.i64 e.life, Value.int IntKind.i64 e.peer, Value.int IntKind.i64 e.phase, Value.int IntKind.i64 e.base, Value.slice (adr e.oz 0) e.outs.length e.outs.length, Value.int IntKind.i64 e.want, Value.slice (adr e.iz 1) e.ins.length e.ins.length] true] ∧ (Ide.bcase (decide ((hasI (IntKind.wrap .i64 ((IntKind.wrap .i64 (e.want + 1)) + 2)) 0 e.ins) ≥ 0))
 (IEnd.ret (Value.int IntKind.i64 4) = IEnd.ret (.int .i64 (bitsS e)) ∧ endR e r1 r2 = endR e r1 r2)
 (IEnd.ret (Value.int IntKind.i64 0) = IEnd.ret (.int .i64 (bitsS e)) ∧ endR e r1 r2 = endR e r1 r2)))))))) (by kernel_rfl) ?_
  have e1 : bitsS e = (if hb e 0 = true then 1 else 0) + (if hb e 1 = true then 2 else 0) + (if hb e 2 = true then 4 else 0) := rfl
  repeat' first
    | refine bcI (fun h => ?_) (fun h => ?_)
    | refine And.intro rfl (And.intro (has_pre e r1 r2 _) ?_)
    | refine And.intro ?_ rfl
  all_goals (simp only [show (decide (hasI (IntKind.wrap .i64 (IntKind.wrap .i64 (e.want + 1) + 0)) 0 e.ins ≥ 0)) = hb e 0 from rfl, show (decide (hasI (IntKind.wrap .i64 (IntKind.wrap .i64 (e.want + 1) + 1)) 0 e.ins ≥ 0)) = hb e 1 from rfl, show (decide (hasI (IntKind.wrap .i64 (IntKind.wrap .i64 (e.want + 1) + 2)) 0 e.ins ≥ 0)) = hb e 2 from rfl] at *; simp only [e1, *]; rfl)

/-! ### packets -/
structure Pkt where
  kind : Int
  src : Int
  dst : Int
  num : Int
  text : ByteArray
  ack : Int
  held : Int
def pktW (p : Pkt) : List Value := [.int .i64 p.kind, .int .i64 p.src, .int .i64 p.dst, .int .i64 p.num, .string p.text, .int .i64 p.ack, .int .i64 p.held]
def pktV (p : Pkt) : Value := .agg ⟨pktW p⟩
def noText : ByteArray := ⟨⟨[]⟩⟩

def greetS (e : SE) : Pkt := ⟨1, e.life, e.peer, 0, noText, 0, 0⟩
def reportS (e : SE) : Pkt := ⟨3, e.life, e.peer, 0, noText, e.want, bitsS e⟩
def dataS (e : SE) (i : Int) (text : ByteArray) : Pkt := ⟨2, e.life, e.peer, IntKind.wrap .i64 (e.base + i), text, e.want, bitsS e⟩

theorem greet_ok {e : SE} {i j : Nat} {r1 r2 : Bool} {H : IHeap} (hh : Has e i j r1 r2 H) : ICalls Pr 40 [endAt e i j] H (fun r H' => r = .ret (pktV (greetS e)) ∧ H' = H) := by
  refine liftE (more := []) rfl rfl (icalls_sxu (hs := []) 40 mixed sc0_ok (by kernel_rfl) (by kernel_rfl) ?_) hh
  refine Eq.mp (α := (IEnd.ret (Value.agg ⟨[Value.int IntKind.i64 1, Value.int IntKind.i64 e.life, Value.int IntKind.i64 e.peer, Value.int IntKind.i64 0, Value.string (ByteArray.mk ⟨[]⟩), Value.int IntKind.i64 0, Value.int IntKind.i64 0]⟩) = IEnd.ret (pktV (greetS e)) ∧ endR e r1 r2 = endR e r1 r2)) (by kernel_rfl) ?_
  exact ⟨rfl, rfl⟩

def scP (e : SE) (r1 r2 : Bool) : SCall := fun g args H K =>
  bif Nat.beq g 69 then (match args with | [v] => v = endAt e 0 1 ∧ Has e 0 1 r1 r2 H ∧ K (.int .i64 (bitsS e)) H | _ => False)
  else False
theorem scP_ok {e : SE} (w : Wf e) (r1 r2 : Bool) : SOk Pr (scP e r1 r2) := by
  intro g args H K h
  unfold scP at h
  obtain ⟨hg, hk⟩ := bifF h
  have := Nat.eq_of_beq_eq_true hg
  subst this
  split at hk
  · obtain ⟨rfl, hh, hk⟩ := hk
    exact (bits_ok w hh).mono fun r H' hr => ⟨_, hr.1, by rw [hr.2]; exact hk⟩
  · exact hk.elim

theorem report_ok {e : SE} (w : Wf e) {i j : Nat} {r1 r2 : Bool} {H : IHeap} (hh : Has e i j r1 r2 H) : ICalls Pr 41 [endAt e i j] H (fun r H' => r = .ret (pktV (reportS e)) ∧ H' = H) := by
  refine liftE (more := []) rfl rfl (icalls_sxu (hs := []) 40 mixed (scP_ok w r1 r2) (by kernel_rfl) (by kernel_rfl) ?_) hh
  refine Eq.mp (α := (endAt e 0 1 = endAt e 0 1 ∧ Has e 0 1 r1 r2 [.cells (outC e.outs) r1, .cells (inC e.ins) r2, .cells [Value.int IntKind.i64 e.life, Value.int IntKind.i64 e.peer, Value.int IntKind.i64 e.phase, Value.int IntKind.i64 e.base, Value.slice (adr e.oz 0) e.outs.length e.outs.length, Value.int IntKind.i64 e.want, Value.slice (adr e.iz 1) e.ins.length e.ins.length] true, .cells [Value.int IntKind.i64 0, Value.int IntKind.i64 0, Value.int IntKind.i64 0, Value.int IntKind.i64 0, Value.string (ByteArray.mk ⟨[]⟩), Value.int IntKind.i64 0, Value.int IntKind.i64 0] true] ∧ ((some (Value.int IntKind.i64 e.want) : Option Value) = some (Value.int IntKind.i64 e.want) ∧ ((some (Value.int IntKind.i64 e.peer) : Option Value) = some (Value.int IntKind.i64 e.peer) ∧ ((some (Value.int IntKind.i64 e.life) : Option Value) = some (Value.int IntKind.i64 e.life) ∧ (IEnd.ret (Value.agg ⟨[Value.int IntKind.i64 3, Value.int IntKind.i64 e.life, Value.int IntKind.i64 e.peer, Value.int IntKind.i64 0, Value.string (ByteArray.mk ⟨[]⟩), Value.int IntKind.i64 e.want, Value.int IntKind.i64 (bitsS e)]⟩) = IEnd.ret (pktV (reportS e)) ∧ endR e r1 r2 = endR e r1 r2)))))) (by kernel_rfl) ?_
  refine ⟨rfl, has_pre e r1 r2 _, ?_⟩
  repeat' first | exact rfl | refine And.intro ?_ ?_

def scD (e : SE) (r1 r2 : Bool) : SCall := fun g args H K =>
  bif Nat.beq g 41 then (match args with | [v] => v = endAt e 0 1 ∧ Has e 0 1 r1 r2 H ∧ K (pktV (reportS e)) H | _ => False)
  else False
theorem scD_ok {e : SE} (w : Wf e) (r1 r2 : Bool) : SOk Pr (scD e r1 r2) := by
  intro g args H K h
  unfold scD at h
  obtain ⟨hg, hk⟩ := bifF h
  have := Nat.eq_of_beq_eq_true hg
  subst this
  split at hk
  · obtain ⟨rfl, hh, hk⟩ := hk
    exact (report_ok w hh).mono fun r H' hr => ⟨_, hr.1, by rw [hr.2]; exact hk⟩
  · exact hk.elim

theorem data_ok {e : SE} (w : Wf e) {pre post : List (ByteArray × Bool)} {x : ByteArray × Bool} (hp : e.outs = pre ++ x :: post) {i j : Nat} {r1 r2 : Bool} {H : IHeap} (hh : Has e i j r1 r2 H) : ICalls Pr 39 [endAt e i j, .int .i64 (pre.length : Nat)] H (fun r H' => r = .ret (pktV (dataS e (pre.length : Nat) x.1)) ∧ H' = H) := by
  have hz : e.oz = false := by
    cases hz : e.oz with
    | false => rfl
    | true => have := w.oz hz; rw [hp] at this; simp at this
  have hl : e.outs.length = pre.length + post.length + 1 := by rw [hp]; simp; omega
  refine liftE (more := [.int .i64 (pre.length : Nat)]) rfl rfl ?_ hh
  have he : endAt e 0 1 = .agg ⟨endW e (adr false 0) (adr e.iz 1)⟩ := by unfold endAt; rw [hz]
  rw [he]
  refine icalls_sxu (hs := [19]) 40 mixed (scD_ok w r1 r2) (by kernel_rfl) (by kernel_rfl) ?_
  refine Eq.mp (α := (Value.agg ⟨[Value.int IntKind.i64 e.life, Value.int IntKind.i64 e.peer, Value.int IntKind.i64 e.phase, Value.int IntKind.i64 e.base, Value.slice (some ⟨0, 0, some 4⟩) e.outs.length e.outs.length, Value.int IntKind.i64 e.want, Value.slice (adr e.iz 1) e.ins.length e.ins.length]⟩ = endAt e 0 1 ∧ Has e 0 1 r1 r2 [.cells (outC e.outs) r1, .cells (inC e.ins) r2, .cells [Value.int IntKind.i64 e.life, Value.int IntKind.i64 e.peer, Value.int IntKind.i64 e.phase, Value.int IntKind.i64 e.base, Value.slice (some ⟨0, 0, some 4⟩) e.outs.length e.outs.length, Value.int IntKind.i64 e.want, Value.slice (adr e.iz 1) e.ins.length e.ins.length] true, .cells [Value.int IntKind.i64 0, Value.int IntKind.i64 0, Value.int IntKind.i64 0, Value.int IntKind.i64 0, Value.string (ByteArray.mk ⟨[]⟩), Value.int IntKind.i64 0, Value.int IntKind.i64 0] true] ∧ (0 ≤ ((pre.length : Nat) : Int) ∧ ((pre.length : Nat) : Int) < ((e.outs.length : Nat) : Int) ∧ (∃ s1 : ByteArray, (outC e.outs)[((0 + Int.toNat ((pre.length : Nat) : Int) * 2) + 0)]? = some (Value.string s1) ∧ (IEnd.ret (Value.agg ⟨[Value.int IntKind.i64 2, Value.int IntKind.i64 e.life, Value.int IntKind.i64 e.peer, Value.int IntKind.i64 (IntKind.wrap .i64 (e.base + ((pre.length : Nat) : Int))), Value.string s1, Value.int IntKind.i64 e.want, Value.int IntKind.i64 (bitsS e)]⟩) = IEnd.ret (pktV (dataS e (pre.length : Nat) x.1)) ∧ endR e r1 r2 = endR e r1 r2))))) (by kernel_rfl) ?_
  refine ⟨he.symm, has_pre e r1 r2 _, by omega, by omega, x.1, ?_, rfl, rfl⟩
  rw [hp, show 0 + Int.toNat ((pre.length : Nat) : Int) * 2 + 0 = 2 * pre.length by simp; omega]
  exact (outC_get pre x post).1

end Go.Proofs.Ytoikiogaiikheaa.Sess

/- Contracts over read-only lists serve for lists that are the caller's own, too; and functions that are laid open within their callers. -/
set_option linter.unusedVariables false
set_option linter.unusedSimpArgs false
namespace Ide
open Go Go.RowKit
variable [Pol]

def roLoc (l : Ide.Loc) : Ide.Loc := { l with rw := false }
def roL (L : LMap) : LMap := fun i => (L i).map roLoc

mutual
theorem VRel.ro {L : LMap} : ∀ {v v' : Value}, VRel L v v' → VRel (roL L) v v'
  | _, _, .any v => .any v
  | _, _, .bool b => .bool b
  | _, _, .int k n => .int k n
  | _, _, .str s => .str s
  | _, _, .ptrNil => .ptrNil
  | _, _, .ptr (l := l) h => .ptr (l := roLoc l) (by unfold roL; rw [h]; rfl)
  | _, _, .sliceNil => .sliceNil
  | _, _, .sliceE hq => .sliceE hq
  | _, _, .slice (l := l) h hn hm hx ho hb => .slice (l := roLoc l) (by unfold roL; rw [h]; rfl) hn hm hx ho (fun h => by cases h)
  | _, _, .mapNil => .mapNil
  | _, _, .map (l := l) h => .map (l := roLoc l) (by unfold roL; rw [h]; rfl)
  | _, _, .func h1 h2 => .func (VsRel.ro h1) (VsRel.ro h2)
  | _, _, .yield (l := l) h => .yield (l := roLoc l) (by unfold roL; rw [h]; rfl)
  | _, _, .nilFunc => .nilFunc
  | _, _, .nilIface => .nilIface
  | _, _, .iface h => .iface (VRel.ro h)
  | _, _, .agg h => .agg (VsRel.ro h)
  | _, _, .tuple h => .tuple (VsRel.ro h)
theorem VsRel.ro {L : LMap} : ∀ {a b : List Value}, VsRel L a b → VsRel (roL L) a b
  | _, _, .nil => .nil
  | _, _, .cons h t => .cons (VRel.ro h) (VsRel.ro t)
 end

theorem ground_get : ∀ {l : List Value}, ground.groundL l = true → ∀ {i : Nat} {v : Value}, l[i]? = some v → ground v = true
  | [], _, i, v, h => by simp at h
  | x :: l, hg, i, v, h => by
    simp only [ground.groundL, Bool.and_eq_true] at hg
    cases i with
    | zero => simp at h; rw [← h]; exact hg.1
    | succ i => exact ground_get hg.2 (i := i) (by simpa using h)

/-- A call that hands back a plain value, over read-only blocks of ground cells: so in every heap in which such cells lie, be they read-only or not. -/
theorem ICalls.asRo {P : Program} {f : FuncId} {args : List Value} {Hc H : IHeap} {v : Value} (ρ : Nat → Nat) (use : Nat → Bool) (hv : ∀ (L L' : LMap) (v' : Value), VRel L v v' → VRel L' v v')
    (h : ICalls P f args Hc (fun e _ => e = .ret v)) (hi : idV.goL (fun i => Nat.blt i Hc.length && use i) args = true)
    (hH : ∀ i, i < Hc.length → use i = true → ∃ cs r, Hc[i]? = some (.cells cs false) ∧ ground.groundL cs = true ∧ H[ρ i]? = some (.cells cs r)) :
    ICalls P f (renV.goL ρ args) H (fun e H' => e = .ret v ∧ H' = H) := by
  refine ⟨h.1, fun β w args' S ha => ?_⟩
  let βc : Emb := { w0 := w, loc := fun i => if i < Hc.length ∧ use i = true then roL β.loc (ρ i) else none, held := fun _ => False }
  have hloc : ∀ i, i < Hc.length ∧ use i = true → βc.loc i = roL β.loc (ρ i) := fun i hi => if_pos hi
  have hlt : ∀ {i l}, βc.loc i = some l → (i < Hc.length ∧ use i = true) ∧ ∃ l0, β.loc (ρ i) = some l0 ∧ l = roLoc l0 := by
    intro i l h
    by_cases e : i < Hc.length ∧ use i = true
    · rw [hloc i e] at h
      unfold roL at h
      cases hb : β.loc (ρ i) with
      | none => rw [hb] at h; cases h
      | some l0 => rw [hb] at h; cases h; exact ⟨e, l0, rfl, rfl⟩
    · have : βc.loc i = none := if_neg e
      rw [this] at h; cases h
  have Sc : Sim βc Hc w := {
    below := Below.refl _ _
    dom := fun id l hl => (hlt hl).1.1
    held := fun id h => h.elim
    blk := fun id l hl => by obtain ⟨_, l0, h1, rfl⟩ := hlt hl; exact S.blk _ l0 h1
    obj := fun id l o hl ho => by
      obtain ⟨hk, l0, h1, rfl⟩ := hlt hl
      obtain ⟨cs, r, h2, h3, h4⟩ := hH id hk.1 hk.2
      rw [h2] at ho
      cases ho
      refine ⟨rfl, S.blk _ l0 h1, cs, VsRel.of_ground _ _ h3, fun i v hv => ?_⟩
      obtain ⟨v', h5, h6⟩ := S.cell h1 (off := i) (v := v) (by unfold cellAt; rw [h4]; exact hv)
      have hg : ground v = true := ground_get h3 hv
      rw [← h6.eq_of_ground hg]
      exact h5
    inj := fun i j l l' o o' hl hl' ho ho' hown _ _ => by
      obtain ⟨hk, l0, h1, rfl⟩ := hlt hl
      obtain ⟨cs, r, h2, h3, h4⟩ := hH i hk.1 hk.2
      rw [h2] at ho
      cases ho
      cases hown }
  have hac : VsRel βc.loc args args'.toList := ren_relsp (p := fun i => Nat.blt i Hc.length && use i) (fun i hi => hloc i (by simp only [Bool.and_eq_true, Nat.blt_eq] at hi; exact hi)) args _ (VsRel.ro ha) hi
  refine (h.2 βc w args' Sc hac).mono fun e w' hA => ?_
  obtain ⟨β', H', St, S', hE⟩ := hA
  have hb : Below w.heap.size w w' := by have := S'.below; rw [St.le.1.1] at this; exact this
  have hw0 : β.w0.heap.size ≤ w.heap.size := S.below.size
  refine ⟨β, H, ⟨Emb.le.refl _, St.size, fun id l hl => .inl ⟨id, l, hl, rfl⟩, fun k hk _ => hb.block k hk⟩, ?_, ?_⟩
  · exact {
      below := S.below.trans (hb.mono hw0)
      dom := S.dom
      held := S.held
      blk := fun id l hl => Nat.lt_of_lt_of_le (S.blk id l hl) St.size
      obj := fun id l o hl ho => (S.obj id l o hl ho).keep fun _ => hb.block _ (S.blk id l hl)
      inj := S.inj }
  · match e, hE with
    | .returned v', ⟨u, hu, he⟩ =>
      injection he with e1
      subst e1
      exact ⟨u, hv _ _ _ hu, rfl, rfl⟩
    | .panicked chain, ⟨u, _, _, _, hu⟩ => cases hu

/-- Functions that are laid open where they are called. -/
def scInl (P : Program) (hs : FuncId → List Nat) (fs : List Nat) (base : SCall) (fuel : Nat) : Nat → SCall
  | 0 => base
  | n + 1 => fun g args H K =>
    bif memN g fs then
      (bif fnOkN P g args.length && codeOk P (ntOf P g) true (bodyOf P g) then
        sxu P (hs g) (scInl P hs fs base fuel n) fuel (bodyOf P g) (bodyS P (ressOf P g) fun r H' => match r with | .ret v => K v H' | _ => False) (envOf 0 args) H
      else False)
    else base g args H K

theorem scInl_ok {P : Program} {hs : FuncId → List Nat} {fs : List Nat} {base : SCall} {fuel : Nat} (hm : P.follows .mixedOrders = true) (hb : SOk P base) : ∀ n, SOk P (scInl P hs fs base fuel n)
  | 0 => hb
  | n + 1 => by
    intro g args H K h
    unfold scInl at h
    cases hg : memN g fs with
    | false => rw [hg] at h; exact hb g args H K h
    | true =>
      rw [hg] at h
      obtain ⟨h1, h2⟩ := bifF h
      simp only [Bool.and_eq_true] at h1
      refine (icalls_sxu fuel hm (scInl_ok hm hb n) h1.1 h1.2 h2).mono fun e H' he => ?_
      cases e with
      | ret v => exact ⟨v, rfl, he⟩
      | _ => exact he.elim

end Ide

/- What calls make, in every heap: the new objects stand at the end. -/
set_option linter.unusedVariables false
set_option linter.unusedSimpArgs false
namespace Ide
open Go Go.RowKit
variable [Pol]

mutual
theorem idV_mono {p q : Nat → Bool} (h : ∀ i, p i = true → q i = true) : ∀ {v : Value}, idV p v = true → idV q v = true
  | .pointer none, _ => rfl
  | .pointer (some ⟨i, _, _⟩), hi => h i hi
  | .slice none _ _, _ => rfl
  | .slice (some ⟨i, _, _⟩) _ _, hi => h i hi
  | .map none, _ => rfl
  | .map (some i), hi => h i hi
  | .func f ⟨a⟩ ⟨c⟩, hi => by
    simp only [idV, idV.go, Bool.and_eq_true] at hi ⊢
    refine ⟨⟨?_, idVs_mono h hi.1.2⟩, idVs_mono h hi.2⟩
    cases f <;> first | rfl | exact h _ hi.1.1
  | .iface _ v, hi => by simp only [idV] at hi ⊢; exact idV_mono h hi
  | .agg ⟨l⟩, hi => by simp only [idV, idV.go] at hi ⊢; exact idVs_mono h hi
  | .tuple ⟨l⟩, hi => by simp only [idV, idV.go] at hi ⊢; exact idVs_mono h hi
  | .bool _, _ => rfl
  | .int .., _ => rfl
  | .string _, _ => rfl
  | .nilFunc, _ => rfl
  | .nilIface, _ => rfl
  | .chan _, _ => rfl
  | .float .., _ => rfl
  | .complex .., _ => rfl
theorem idVs_mono {p q : Nat → Bool} (h : ∀ i, p i = true → q i = true) : ∀ {l : List Value}, idV.goL p l = true → idV.goL q l = true
  | [], _ => rfl
  | v :: l, hi => by
    simp only [idV.goL, Bool.and_eq_true] at hi ⊢
    exact ⟨idV_mono h hi.1, idVs_mono h hi.2⟩
 end

mutual
theorem renV_congr {p : Nat → Bool} {σ τ : Nat → Nat} (h : ∀ i, p i = true → σ i = τ i) : ∀ {v : Value}, idV p v = true → renV σ v = renV τ v
  | .pointer none, _ => rfl
  | .pointer (some ⟨i, _, _⟩), hi => by simp only [renV, renA]; rw [h i hi]
  | .slice none _ _, _ => rfl
  | .slice (some ⟨i, _, _⟩) _ _, hi => by simp only [renV, renA]; rw [h i hi]
  | .map none, _ => rfl
  | .map (some i), hi => by simp only [renV, renR]; rw [h i hi]
  | .func f ⟨a⟩ ⟨c⟩, hi => by
    simp only [idV, idV.go, Bool.and_eq_true] at hi
    simp only [renV, renV.go]
    rw [renVs_congr h hi.1.2, renVs_congr h hi.2]
    cases f <;> first | rfl | (simp only [renF]; rw [h _ hi.1.1])
  | .iface _ v, hi => by simp only [idV] at hi; simp only [renV]; rw [renV_congr h hi]
  | .agg ⟨l⟩, hi => by simp only [idV, idV.go] at hi; simp only [renV, renV.go]; rw [renVs_congr h hi]
  | .tuple ⟨l⟩, hi => by simp only [idV, idV.go] at hi; simp only [renV, renV.go]; rw [renVs_congr h hi]
  | .bool _, _ => rfl
  | .int .., _ => rfl
  | .string _, _ => rfl
  | .nilFunc, _ => rfl
  | .nilIface, _ => rfl
  | .chan _, _ => rfl
  | .float .., _ => rfl
  | .complex .., _ => rfl
theorem renVs_congr {p : Nat → Bool} {σ τ : Nat → Nat} (h : ∀ i, p i = true → σ i = τ i) : ∀ {l : List Value}, idV.goL p l = true → renV.goL σ l = renV.goL τ l
  | [], _ => rfl
  | v :: l, hi => by
    simp only [idV.goL, Bool.and_eq_true] at hi
    simp only [renV.goL]
    rw [renV_congr h hi.1, renVs_congr h hi.2]
 end

theorem renO_congr {p : Nat → Bool} {σ τ : Nat → Nat} (h : ∀ i, p i = true → σ i = τ i) {o : IObj} (hi : idO p o = true) : renO σ o = renO τ o := by
  cases o with
  | cells cs rw => simp only [renO]; rw [renVs_congr h hi]
  | map es c =>
    simp only [renO]
    congr 1
    unfold renEs
    refine List.map_congr_left fun e he => ?_
    rw [renV_congr h (List.all_eq_true.1 hi e he)]
  | _ => cases hi

theorem idO_mono {p q : Nat → Bool} (h : ∀ i, p i = true → q i = true) {o : IObj} (hi : idO p o = true) : idO q o = true := by
  cases o with
  | cells cs rw => exact idVs_mono h hi
  | map es c => exact List.all_eq_true.2 fun e he => idV_mono h (List.all_eq_true.1 hi e he)
  | _ => cases hi

/-- Objects that nowhere lie may be thought of at the end. -/
theorem ICalls.junk {P : Program} {f : FuncId} {args : List Value} {H : IHeap} {R : IEnd → IHeap → Prop} (js : IHeap) (h : ICalls P f args (H ++ js) R) : ICalls P f args H R := by
  refine ⟨h.1, fun β w args' S ha => h.2 β w args' ?_ ha⟩
  have old : ∀ {i l}, β.loc i = some l → (H ++ js)[i]? = H[i]? := fun hl => by rw [List.getElem?_append_left (S.dom _ _ hl)]
  exact {
    below := S.below
    dom := fun id l hl => by have := S.dom id l hl; simp; omega
    held := fun id hh => ⟨by have := (S.held id hh).1; simp; omega, (S.held id hh).2.1, by rw [List.getElem?_append_left (S.held id hh).1]; exact (S.held id hh).2.2⟩
    blk := S.blk
    obj := fun id l o hl ho => S.obj id l o hl (by rw [← old hl]; exact ho)
    inj := fun i j l l' o o' hl hl' ho ho' => S.inj i j l l' o o' hl hl' (by rw [← old hl]; exact ho) (by rw [← old hl']; exact ho') }

/-- One value tells less than another. -/
def Less (v u : Value) : Prop := ∀ (L : LMap) (v' : Value), VRel L v v' → VRel L u v'
theorem Less.refl (v : Value) : Less v v := fun _ _ h => h
theorem Less.odd (id off k n : Nat) : Less (.slice (some ⟨id, off, some (2 * k + 1)⟩) n n) (.slice (some ⟨id, off, some (2 * k)⟩) n n) := by
  intro L v' h
  cases h with
  | sliceE hq => exfalso; omega
  | slice h hn hm hx ho hb =>
    refine .slice h hn hm (fun h => by omega) ho (fun h => ?_)
    have := hb h
    rw [show (2 * k + 1) / 2 = k by omega] at this
    rw [show 2 * k / 2 = k by omega]
    exact this
def LessL : List Value → List Value → Prop
  | [], [] => True
  | v :: a, u :: b => Less v u ∧ LessL a b
  | _, _ => False
theorem LessL.rel {L : LMap} : ∀ {a b c : List Value}, LessL a b → VsRel L a c → VsRel L b c
  | [], [], _, _, h => h
  | _ :: _, _ :: _, _, ⟨h1, h2⟩, .cons hv ht => .cons (h1 _ _ hv) (h2.rel ht)
  | [], _ :: _, _, h, _ => h.elim
  | _ :: _, [], _, h, _ => h.elim
theorem Less.agg {a b : List Value} (h : LessL a b) : Less (.agg ⟨a⟩) (.agg ⟨b⟩) := by
  intro L v' hv
  cases hv with
  | agg hv => exact .agg (h.rel hv)
theorem Less.tuple {a b : List Value} (h : LessL a b) : Less (.tuple ⟨a⟩) (.tuple ⟨b⟩) := by
  intro L v' hv
  cases hv with
  | tuple hv => exact .tuple (h.rel hv)

theorem ICalls.weak {P : Program} {f : FuncId} {args : List Value} {H : IHeap} {R R2 : IEnd → IHeap → Prop} (h : ICalls P f args H R) (hR : ∀ e H', R e H' → ∃ v u, e = .ret v ∧ Less v u ∧ R2 (.ret u) H') : ICalls P f args H R2 := by
  refine ⟨h.1, fun β w args' S ha => (h.2 β w args' S ha).mono fun e w' ⟨β', H', St, S', hE⟩ => ⟨β', H', St, S', ?_⟩⟩
  match e, hE with
  | .returned v', ⟨v, hv, hr⟩ =>
    obtain ⟨_, u, h1, h2, h3⟩ := hR _ _ hr
    injection h1 with h1
    subst h1
    exact ⟨u, h2 _ _ hv, h3⟩
  | .panicked chain, ⟨v, v', _, _, hr⟩ =>
    obtain ⟨_, u, h1, _⟩ := hR _ _ hr
    cases h1

theorem renO_plain (σ : Nat → Nat) {o : IObj} (h : plainO o = true) : renO σ o = o := by
  match o, h with
  | .free, _ => rfl
  | .cells cs rw, h => simp only [renO]; rw [renVs_ground σ cs h]
  | .map es c, h =>
    simp only [renO]
    congr 1
    unfold renEs
    have : ∀ e ∈ es, (fun e : MapEntry => { e with val := renV σ e.val }) e = e := fun e he => by
      show { e with val := renV σ e.val } = e
      rw [renV_ground σ e.val (List.all_eq_true.1 h e he)]
    exact (List.map_congr_left this).trans (by simp)

/-- What was given stands as it did; and the new objects that are kept. -/
structure Fresh (Hc H' : IHeap) (ks : List Nat) (objs : IHeap) : Prop where
  len : ks.length = objs.length
  nodup : ks.Nodup
  ge : ∀ k, k ∈ ks → Hc.length ≤ k
  old : ∀ (i : Nat) (o : IObj), Hc[i]? = some o → H'[i]? = some o
  new : ∀ (j k : Nat) (o : IObj), ks[j]? = some k → objs[j]? = some o → (plainO o = true ∨ idO (kept Hc.length ks) o = true) ∧ (k < H'.length → H'[k]? = some o)

def NewAt (p : Nat → Bool) (H' : IHeap) : List Nat → IHeap → Prop
  | k :: ks, o :: objs => ((plainO o = true ∨ idO p o = true) ∧ (k < H'.length → H'[k]? = some o)) ∧ NewAt p H' ks objs
  | [], [] => True
  | _, _ => False
theorem NewAt.len {p : Nat → Bool} {H' : IHeap} : ∀ {ks : List Nat} {objs : IHeap}, NewAt p H' ks objs → ks.length = objs.length
  | _ :: _, _ :: _, h => congrArg (· + 1) h.2.len
  | [], [], _ => rfl
  | [], _ :: _, h => h.elim
  | _ :: _, [], h => h.elim
theorem NewAt.get {p : Nat → Bool} {H' : IHeap} : ∀ {ks : List Nat} {objs : IHeap}, NewAt p H' ks objs → ∀ (j k : Nat) (o : IObj), ks[j]? = some k → objs[j]? = some o → (plainO o = true ∨ idO p o = true) ∧ (k < H'.length → H'[k]? = some o)
  | _ :: _, _ :: _, h, 0, k, o, hk, ho => by simp at hk ho; subst hk; subst ho; exact h.1
  | _ :: _, _ :: _, h, j + 1, k, o, hk, ho => h.2.get j k o (by simpa using hk) (by simpa using ho)
  | [], [], _, j, k, o, hk, _ => by simp at hk
  | [], _ :: _, h, _, _, _, _, _ => h.elim
  | _ :: _, [], h, _, _, _, _, _ => h.elim
theorem Fresh.of {Hc H' : IHeap} {ks : List Nat} {objs : IHeap} (tail : IHeap) (hH : H' = Hc ++ tail) (hnd : ks.Nodup) (hge : ks.all (Nat.ble Hc.length) = true) (hn : NewAt (kept Hc.length ks) H' ks objs) : Fresh Hc H' ks objs where
  len := hn.len
  nodup := hnd
  ge := fun k hk => Nat.le_of_ble_eq_true (List.all_eq_true.1 hge k hk)
  old := fun i o h => by rw [hH, List.getElem?_append_left (List.getElem?_eq_some_iff.1 h).1]; exact h
  new := hn.get

/-- What a call over a small heap must come to. -/
def NewsQ (Hc : IHeap) (R : Value → List Nat → IHeap → Prop) : IEnd → IHeap → Prop := fun e H' => ∃ v ks objs, e = .ret v ∧ idV (kept Hc.length ks) v = true ∧ Fresh Hc H' ks objs ∧ R v ks objs

theorem ICalls.news {P : Program} {f : FuncId} {args : List Value} {Hc H : IHeap} {R : Value → List Nat → IHeap → Prop} (rs : List Nat)
    (h : ICalls P f args Hc (NewsQ Hc R)) (hrs : rs.length = Hc.length) (hnd : rs.Nodup)
    (ha : inV.goL Hc.length args = true) (hH : ∀ i o, Hc[i]? = some o → ∃ o', H[rho rs i]? = some o' ∧ Back Hc.length (rho rs) o o') :
    ICalls P f (renV.goL (rho rs) args) H (fun e H2 => ∃ v ks objs, R v ks objs ∧ e = .ret (renV (sigR rs Hc.length H.length ks) v) ∧ H2 = H ++ objs.map (renO (sigR rs Hc.length H.length ks))) := by
  refine h.reframe rs hrs hnd ha hH fun e Hc' hr => ?_
  obtain ⟨v, ks, objs, rfl, hi, F, hR⟩ := hr
  have hrho : ∀ {i j}, rs[i]? = some j → rho rs i = j := fun {i j} h => by unfold rho; rw [List.getD_eq_getElem?_getD, h]; rfl
  refine ⟨v, ks, H ++ objs.map (renO (sigR rs Hc.length H.length ks)), rfl, hi, ?_, v, ks, objs, hR, rfl, rfl⟩
  exact {
    len := by simp [F.len]
    nodup := F.nodup
    ge := F.ge
    inn := fun i j o hi ho => by
      have hlt : i < Hc.length := by have := (List.getElem?_eq_some_iff.1 hi).1; omega
      obtain ⟨o', h1, h2⟩ := hH i _ (List.getElem?_eq_getElem hlt)
      rw [hrho hi] at h1
      have hj : j < H.length := (List.getElem?_eq_some_iff.1 h1).1
      rw [List.getElem?_append_left hj, h1] at ho
      cases ho
      refine ⟨_, F.old i _ (List.getElem?_eq_getElem hlt), ?_⟩
      rcases h2 with ⟨h2, rfl⟩ | ⟨h2, rfl⟩
      · exact .plain h2
      · refine .ren (idO_mono (fun k hk => by unfold kept; rw [hk]; rfl) h2) (renO_congr (p := fun i => Nat.blt i Hc.length) (fun k hk => ?_) h2)
        unfold sigR
        rw [hk]
        rfl
    out := fun j hj _ => by rw [List.getElem?_append_left hj]
    new := fun j k o hk ho hlt => by
      have ho' : (objs.map (renO (sigR rs Hc.length H.length ks)))[j]? = some o := by rw [List.getElem?_append_right (by omega), Nat.add_sub_cancel_left] at ho; exact ho
      rw [List.getElem?_map] at ho'
      obtain ⟨o0, h0, rfl⟩ := Option.map_eq_some_iff.1 ho'
      obtain ⟨h1, h2⟩ := F.new j k o0 hk h0
      refine ⟨o0, h2 hlt, ?_⟩
      rcases h1 with h1 | h1
      · rw [renO_plain _ h1]; exact .plain h1
      · exact .ren h1 rfl }

end Ide

/- Loops whose rounds write what stands. -/
set_option linter.unusedVariables false
set_option linter.unusedSimpArgs false
namespace Ide
open Go Go.RowKit
variable [Pol]

/-- One round of a loop; what it makes is left out behind it; what it writes is kept. -/
theorem loop_sxt {P : Program} {hs : List Nat} {sc : SCall} {nt : Nat} {ro : Option Nat} {rf : Bool} (hm : P.follows .mixedOrders = true) (hsc : SOk P sc) (l : List Nat) (n : Nat) {L : Code} {Q : IExit → Env → IHeap → Prop} {env : Env} {H : IHeap}
    (hok : codeOk P nt rf L = true) (hn : H.length = n)
    (h : sx P hs sc L (thnk l (fun env' H' => envIn n env' = true ∧ (H'.take n).all (inO n) = true ∧ LW ro P nt L Q env' (H'.take n)) (fun e env' H' => envIn n env' = true ∧ (H'.take n).all (inO n) = true ∧ Q e env' (H'.take n))) env H) : LW ro P nt L Q env H := by
  subst hn
  refine loop_step0 (IW.trunc H.length (Nat.le_refl _) ?_)
  refine IW.kept l (fun env' H' => envIn H.length env' = true ∧ (H'.take H.length).all (inO H.length) = true ∧ LW ro P nt L Q env' (H'.take H.length)) ?_ (IW.mono (sx_sound (ro := ro) hm hsc L _ _ _ hok h) fun e env' H' hq => ?_)
  · rintro env' H' ⟨h1, h2, h3⟩
    exact ⟨env', fun t => .inl rfl, h1, h2, fun v => by simp, h3⟩
  · cases e with
    | normal => exact hq
    | exit id =>
      obtain ⟨h1, h2, h3⟩ := hq
      exact ⟨_, fun t => .inl rfl, h1, h2, fun v => by simp, h3⟩
    | ret =>
      obtain ⟨h1, h2, h3⟩ := hq
      exact ⟨_, fun t => .inl rfl, h1, h2, fun v => by simp, h3⟩
    | panic v => exact hq.elim

end Ide

/- The early messages' map; ends that are being changed. -/
set_option linter.unusedVariables false
set_option linter.unusedSimpArgs false
set_option maxRecDepth 10000
namespace Go.Proofs.Ytoikiogaiikheaa.Sess
open Go Go.RowKit Ide Go.Proofs

/-! ### contracts over read-only ends, anywhere -/
theorem liftRo {f : FuncId} {e : SE} {more : List Value} {v : Value} (hv : plainV v = true) (hm : ground.groundL more = true)
    (h : ICalls Pr f (endV e :: more) (endH e) (fun r _ => r = .ret v)) {i j : Nat} {r1 r2 : Bool} {H : IHeap} (hh : Has e i j r1 r2 H) :
    ICalls Pr f (endAt e i j :: more) H (fun r H' => r = .ret v ∧ H' = H) := by
  let ρ : Nat → Nat := fun k => bif Nat.beq k 0 then i else j
  let use : Nat → Bool := fun k => bif Nat.beq k 0 then !e.oz else !e.iz
  have h3 := h.asRo ρ use (plainV_rel hv) (H := H) ?_ ?_
  · have e1 : renV.goL ρ (endV e :: more) = endAt e i j :: more := by
      have e2 : renV.goL ρ more = more := renVs_ground ρ more hm
      show renV ρ (endV e) :: renV.goL ρ more = _
      rw [e2]
      congr 1
      cases e with | mk a b c d w oz iz outs ins => cases oz <;> cases iz <;> rfl
    rw [e1] at h3
    exact h3
  · show (idV _ (endV e) && idV.goL _ more) = true
    have e2 : idV.goL (fun i => Nat.blt i (endH e).length && use i) more = true := idVs_ground _ more hm
    rw [e2]
    cases e with | mk a b c d w oz iz outs ins => cases oz <;> cases iz <;> rfl
  · intro k hk hu
    match k, hk with
    | 0, _ => exact ⟨_, r1, rfl, ground_outC _, hh.out (by simpa [use] using hu)⟩
    | 1, _ => exact ⟨_, r2, rfl, ground_inC _, hh.inn (by simpa [use] using hu)⟩
    | k + 2, hk => exact absurd hk (by simp [endH])

theorem fine_at {e : SE} (w : Wf e) {i j : Nat} {r1 r2 : Bool} {H : IHeap} (hh : Has e i j r1 r2 H) : ICalls Pr 36 [endAt e i j] H (fun r H' => r = .ret (.bool (fineS e)) ∧ H' = H) :=
  liftRo (more := []) rfl rfl ((fine_ok w rfl rfl).mono fun r H' h => h.1) hh
theorem good_at {e : SE} (w : Wf e) {i j : Nat} {r1 r2 : Bool} {H : IHeap} (hh : Has e i j r1 r2 H) : ICalls Pr 22 [endAt e i j] H (fun r H' => r = .ret (.bool (goodS e)) ∧ H' = H) :=
  liftRo (more := []) rfl rfl ((good_ok w rfl rfl).mono fun r H' h => h.1) hh
theorem fly_at (e : SE) {i j : Nat} {r1 r2 : Bool} {H : IHeap} (hh : Has e i j r1 r2 H) : ICalls Pr 38 [endAt e i j] H (fun r H' => r = .ret (.int .i64 (flyS e)) ∧ H' = H) :=
  liftRo (more := []) rfl rfl ((fly_ok e rfl rfl).mono fun r H' h => h.1) hh

/-! ### the map -/
theorem keq_int (a b : Int) : keq Pr 3 (.int .i64 a) (.int .i64 b) = some (a == b && true) := by kernel_rfl

/-- A map from numbers to texts. -/
structure Look (es : List MapEntry) (f : Int → Option ByteArray) : Prop where
  keys : ∀ e ∈ es, ∃ n, e.key = .int .i64 n
  vals : ∀ e ∈ es, ground e.val = true
  find : ∀ n, findV Pr 3 (.int .i64 n) es = some ((f n).map Value.string)

theorem look_nil : Look [] (fun _ => none) := ⟨by simp, by simp, fun n => rfl⟩

def upd (f : Int → Option ByteArray) (n : Int) (s : ByteArray) : Int → Option ByteArray := fun k => if k = n then some s else f k

theorem findV_cons {m n : Int} {e : MapEntry} {es : List MapEntry} (he : e.key = .int .i64 m) : findV Pr 3 (.int .i64 n) (e :: es) = if n = m then some (some e.val) else findV Pr 3 (.int .i64 n) es := by
  unfold findV
  simp only [findE, he, keq_int, Bool.and_true]
  by_cases h : n = m
  · simp [h]
  · have : (n == m) = false := by simpa using h
    simp [this, h]

theorem find_append {n : Int} : ∀ {es : List MapEntry} {e : MapEntry} {m : Int}, (∀ e ∈ es, ∃ n, e.key = .int .i64 n) → e.key = .int .i64 m →
    findV Pr 3 (.int .i64 n) (es ++ [e]) = (match findV Pr 3 (.int .i64 n) es with | some none => if n = m then some (some e.val) else some none | r => r)
  | [], e, m, _, he => by rw [List.nil_append, findV_cons he]; rfl
  | x :: es, e, m, hk, he => by
    obtain ⟨k, hx⟩ := hk x (by simp)
    rw [List.cons_append, findV_cons hx, findV_cons hx]
    by_cases h : n = k
    · simp [h]
    · simp only [h, if_false]
      exact find_append (fun e he => hk e (by simp [he])) he

theorem find_set {n m : Int} {v : Value} : ∀ {es : List MapEntry}, (∀ e ∈ es, ∃ n, e.key = .int .i64 n) → (∃ u, findV Pr 3 (.int .i64 m) es = some (some u)) →
    findV Pr 3 (.int .i64 n) (setVal Pr 3 (.int .i64 m) v es) = if n = m then some (some v) else findV Pr 3 (.int .i64 n) es
  | [], _, ⟨u, hu⟩ => by cases hu
  | x :: es, hk, hu => by
    obtain ⟨k, hx⟩ := hk x (by simp)
    simp only [setVal, hx, keq_int, Bool.and_true]
    by_cases h : m = k
    · subst h
      simp only [BEq.rfl]
      rw [findV_cons (m := m) rfl, findV_cons hx]
      by_cases h2 : n = m
      · simp [h2]
      · simp [h2]
    · have h1 : (m == k) = false := by simpa using h
      simp only [h1]
      rw [findV_cons hx, findV_cons hx]
      obtain ⟨u, hu⟩ := hu
      rw [findV_cons hx, if_neg h] at hu
      rw [find_set (fun e he => hk e (by simp [he])) ⟨u, hu⟩]
      by_cases h2 : n = k
      · subst h2
        have : ¬ n = m := fun e => h e.symm
        simp [this]
      · simp only [h2, if_false]

theorem set_keys {m : Int} {v : Value} {es : List MapEntry} (h : ∀ e ∈ es, ∃ n, e.key = .int .i64 n) : ∀ e ∈ setVal Pr 3 (.int .i64 m) v es, ∃ n, e.key = .int .i64 n := by
  induction es with
  | nil => intro e he; cases he
  | cons x es ih =>
    intro e he
    simp only [setVal] at he
    split at he
    · rcases List.mem_cons.1 he with rfl | he
      · exact ⟨m, rfl⟩
      · exact h e (by simp [he])
    · rcases List.mem_cons.1 he with rfl | he
      · exact h _ (by simp)
      · exact ih (fun e he => h e (by simp [he])) e he
theorem set_vals {m : Int} {v : Value} {es : List MapEntry} (hv : ground v = true) (h : ∀ e ∈ es, ground e.val = true) : ∀ e ∈ setVal Pr 3 (.int .i64 m) v es, ground e.val = true := by
  induction es with
  | nil => intro e he; cases he
  | cons x es ih =>
    intro e he
    simp only [setVal] at he
    split at he
    · rcases List.mem_cons.1 he with rfl | he
      · exact hv
      · exact h e (by simp [he])
    · rcases List.mem_cons.1 he with rfl | he
      · exact h _ (by simp)
      · exact ih (fun e he => h e (by simp [he])) e he

theorem look_put {es : List MapEntry} {f : Int → Option ByteArray} (L : Look es f) (c : Nat) (n : Int) (s : ByteArray) :
    ∃ es' c', putE Pr 3 es c (.int .i64 n) (.string s) (fun a b => a = es' ∧ b = c') ∧ Look es' (upd f n s) := by
  have hf := L.find n
  unfold findV at hf
  unfold putE
  split at hf
  · rename_i e he
    refine ⟨setVal Pr 3 (.int .i64 n) (.string s) es, c, by rw [he]; exact ⟨rfl, rfl⟩, set_keys L.keys, set_vals (by rfl) L.vals, fun k => ?_⟩
    rw [find_set L.keys ⟨e.val, by unfold findV; rw [he]⟩, L.find k]
    unfold upd
    by_cases h : k = n <;> simp [h]
  · rename_i he
    refine ⟨es ++ [{ key := .int .i64 n, val := .string s, born := c }], c + 1, by rw [he]; exact ⟨rfl, rfl⟩, ?_, ?_, fun k => ?_⟩
    · intro e he
      rcases List.mem_append.1 he with he | he
      · exact L.keys e he
      · simp at he; subst he; exact ⟨n, rfl⟩
    · intro e he
      rcases List.mem_append.1 he with he | he
      · exact L.vals e he
      · simp at he; subst he; rfl
    · rw [find_append L.keys (m := n) rfl, L.find k]
      have hn : f n = none := by
        have := L.find n
        unfold findV at this
        rw [he] at this
        cases hx : f n with
        | none => rfl
        | some y => rw [hx] at this; simp at this
      unfold upd
      by_cases h : k = n
      · subst h; simp [hn]
      · cases hk : f k <;> simp [h, hk]
  · cases hf

theorem look_opt {es : List MapEntry} {f : Int → Option ByteArray} (L : Look es f) (n : Int) {Y : ByteArray → Prop} {N : Prop} (h1 : ∀ s, f n = some s → Y s) (h2 : f n = none → N) :
    true = true ∧ ∃ r : Option Value, findV Pr 3 (.int .i64 n) es = some r ∧ optS r Y N := by
  refine ⟨rfl, _, L.find n, ?_⟩
  cases h : f n with
  | none => exact h2 h
  | some s => exact h1 s h

theorem look_plain {es : List MapEntry} {f : Int → Option ByteArray} (L : Look es f) (c : Nat) : plainO (.map es c) = true := List.all_eq_true.2 L.vals

end Go.Proofs.Ytoikiogaiikheaa.Sess
