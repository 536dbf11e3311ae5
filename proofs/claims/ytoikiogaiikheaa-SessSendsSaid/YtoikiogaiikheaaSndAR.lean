/- Clone, open. -/
import Derived.Test.YtoikiogaiikheaaSndAQ
set_option linter.unusedSectionVars false
set_option linter.unusedVariables false
set_option linter.unusedSimpArgs false
set_option maxRecDepth 10000
namespace Go.Proofs.Ytoikiogaiikheaa.Sess
open Go Go.RowKit Ide Go.Proofs

theorem outC_len : ∀ l, (outC l).length = l.length * 2
  | [] => rfl
  | x :: l => by have := outC_len l; show (outC l).length + 1 + 1 = _; rw [this]; simp; omega
theorem inC_len : ∀ l, (inC l).length = l.length * 2
  | [] => rfl
  | x :: l => by have := inC_len l; show (inC l).length + 1 + 1 = _; rw [this]; simp; omega
theorem outC_all (l : List (ByteArray × Bool)) : List.take (l.length * 2) (List.drop 0 (outC l)) = outC l := by rw [List.drop_zero, ← outC_len, List.take_length]
theorem inC_all (l : List (Int × ByteArray)) : List.take (l.length * 2) (List.drop 0 (inC l)) = inC l := by rw [List.drop_zero, ← inC_len, List.take_length]
theorem outC_ok : ∀ l, List.all (outC l) okCell = true
  | [] => rfl
  | x :: l => by show (true && (true && List.all (outC l) okCell)) = true; rw [outC_ok l]; rfl
theorem inC_ok : ∀ l, List.all (inC l) okCell = true
  | [] => rfl
  | x :: l => by show (true && (true && List.all (inC l) okCell)) = true; rw [inC_ok l]; rfl
theorem outC_append (a b) : outC (a ++ b) = outC a ++ outC b := List.flatMap_append
theorem inC_append (a b) : inC (a ++ b) = inC a ++ inC b := List.flatMap_append

/-! ### Clone -/
def CloneR (l : List (ByteArray × Bool)) (v : Value) (ks : List Nat) (objs : IHeap) : Prop :=
  ∃ k q, v = .slice (some ⟨k, 0, some q⟩) l.length l.length ∧ (q = 2 * 2 ∨ q = 2 * 2 + 1) ∧ ks = [k] ∧ 1 ≤ k ∧ objs = [.cells (outC l) true]

theorem clone_c (l : List (ByteArray × Bool)) (r : Bool) (hn : l.length ≤ 1000) : ICalls Pr 70 [.slice (some ⟨0, 0, some 4⟩) l.length l.length] [.cells (outC l) r] (NewsQ [.cells (outC l) r] (CloneR l)) := by
  obtain ⟨R, hR⟩ : ∃ R, R = NewsQ [.cells (outC l) r] (CloneR l) := ⟨_, rfl⟩
  rw [← hR]
  refine icalls_sxu (hs := []) 40 mixed sc0_ok (by kernel_rfl) (by kernel_rfl) ?_
  refine Eq.mp (α := (((0 + l.length) * 24 ≤ 70368744177664 ∧ 0 + l.length ≤ 70368744177664) ∧ (0 + 0 * 2 ≤ List.length ([] : List Value) ∧ (0 + l.length * 2 ≤ List.length ((outC l) : List Value) ∧ (Ide.bcase (Nat.beq l.length 0)
 (R (IEnd.ret (Value.slice (some ⟨1, 0, some 5⟩) 0 0)) [.cells (outC l) r, .cells [] true])
 ((2 = 2 ∧ List.all (List.take (l.length * 2) (List.drop 0 (outC l))) Ide.okCell = true) ∧ 0 < (0 + l.length) ∧ (R (IEnd.ret (Value.slice (some ⟨2, 0, some 4⟩) (0 + l.length) (0 + l.length))) [.cells (outC l) r, .cells [] true, .cells (([] : List Value) ++ (List.take (l.length * 2) (List.drop 0 (outC l)))) true]))))))) (by kernel_rfl) ?_
  refine ⟨⟨by omega, by omega⟩, by simp, by rw [outC_len]; omega, bcI (fun h => ?_) (fun h => ⟨⟨rfl, by rw [outC_all]; exact outC_ok l⟩, ?_, ?_⟩)⟩
  · have h0 : l = [] := by simpa using h
    subst h0
    rw [hR]
    exact ⟨_, [1], [.cells [] true], rfl, rfl, .of [.cells [] true] rfl (by decide) rfl ⟨⟨.inl rfl, fun _ => rfl⟩, trivial⟩, 1, 5, rfl, .inr rfl, rfl, by decide, rfl⟩
  · have h0 : ¬ l.length = 0 := Nat.ne_of_beq_eq_false h
    omega
  · rw [hR, outC_all, List.nil_append, Nat.zero_add]
    exact ⟨_, [2], [.cells (outC l) true], rfl, rfl, .of [.cells [] true, .cells (outC l) true] rfl (by decide) rfl ⟨⟨.inl (ground_outC l), fun _ => rfl⟩, trivial⟩, 2, 4, rfl, .inl rfl, rfl, by decide, rfl⟩

theorem clone_nil (H : IHeap) : ICalls Pr 70 [.slice none 0 0] H (fun r H' => r = .ret (.slice none 0 0) ∧ H' = H) := by
  refine icalls_sxu (hs := []) 40 mixed sc0_ok (by kernel_rfl) (by kernel_rfl) ?_
  exact Eq.mp (α := IEnd.ret (.slice none 0 0) = IEnd.ret (.slice none 0 0) ∧ H = H) (by kernel_rfl) ⟨rfl, rfl⟩

theorem clone_at {e : SE} (w : Wf e) (hn : e.outs.length ≤ 1000) {i : Nat} {r : Bool} {H : IHeap} (hh : e.oz = false → H[i]? = some (.cells (outC e.outs) r)) :
    ICalls Pr 70 [.slice (adr e.oz i) e.outs.length e.outs.length] H (fun e' H' => e' = .ret (.slice (adr e.oz H.length) e.outs.length e.outs.length) ∧ H' = H ++ [.cells (outC e.outs) true]) := by
  cases hz : e.oz with
  | true =>
    have h0 := w.oz hz
    rw [h0]
    exact ((clone_nil _).mono fun r H' h => h).junk [.cells (outC []) true]
  | false =>
    have h1 := (clone_c e.outs r hn).news (H := H) [i] rfl (by simp) rfl ?_
    · refine h1.weak fun e' H' hr => ?_
      obtain ⟨v, ks, objs, ⟨k, q, rfl, hq, rfl, hk, rfl⟩, rfl, rfl⟩ := hr
      have e1 : sigR [i] [IObj.cells (outC e.outs) r].length H.length [k] k = H.length := by
        have hb : Nat.blt k 1 = false := by cases hb : Nat.blt k 1 with | false => rfl | true => simp [Nat.blt_eq] at hb; omega
        show (bif Nat.blt k 1 then _ else H.length + posN k [k]) = _
        rw [hb]
        simp [posN]
      have e3 : List.map (renO (sigR [i] [IObj.cells (outC e.outs) r].length H.length [k])) [.cells (outC e.outs) true] = [.cells (outC e.outs) true] := by
        show [renO _ (.cells (outC e.outs) true)] = _
        rw [renO_plain (o := .cells (outC e.outs) true) _ (ground_outC e.outs)]
      refine ⟨_, .slice (some ⟨H.length, 0, some 4⟩) e.outs.length e.outs.length, rfl, ?_, rfl, by rw [e3]⟩
      show Less (.slice (some ⟨sigR _ _ _ _ k, 0, some q⟩) _ _) _
      rw [e1]
      rcases hq with rfl | rfl
      · exact Less.refl _
      · exact Less.odd _ _ 2 _
    · intro k o hk
      match k, hk with
      | 0, hk => cases hk; exact ⟨_, hh hz, .inl ⟨ground_outC _, rfl⟩⟩

/-! ### open -/
def insF (l : List (Int × ByteArray)) : Int → Option ByteArray := l.foldl (fun f x => upd f x.1 x.2) (fun _ => none)
/-- The cells of an end that is being changed. -/
def xW (e : SE) (a1 a2 : Option Addr) (m : Nat) : List Value := endW e a1 a2 ++ [.map (some m)]

def scO (e : SE) : SCall := fun g args H K =>
  bif Nat.beq g 70 then (match args with | [v] => ∃ (i : Nat) (r : Bool), v = Value.slice (adr e.oz i) e.outs.length e.outs.length ∧ (e.oz = false → H[i]? = some (.cells (outC e.outs) r)) ∧ K (.slice (adr e.oz H.length) e.outs.length e.outs.length) (H ++ [.cells (outC e.outs) true]) | _ => False)
  else False
theorem scO_ok {e : SE} (w : Wf e) (hn : e.outs.length ≤ 1000) : SOk Pr (scO e) := by
  intro g args H K h
  unfold scO at h
  obtain ⟨hg, hk⟩ := bifF h
  have := Nat.eq_of_beq_eq_true hg
  subst this
  split at hk
  · obtain ⟨i, r, rfl, hh, hk⟩ := hk
    exact (clone_at w hn hh).mono fun r H' hr => ⟨_, hr.1, by rw [hr.2]; exact hk⟩
  · exact hk.elim

noncomputable def A42 : List Code := (sp 42).take 4
noncomputable def C42 : List Code := (sp 42).drop 5
noncomputable def L42 : Code := loopOf (sp 42) 4
theorem sp42 : Ide.spine (bodyOf Pr 42) [] = A42 ++ .block 0 (.loop L42) :: C42 := by kernel_rfl

def hO (e : SE) (z : Bool) (r1 r2 : Bool) (es : List MapEntry) (c : Nat) : IHeap :=
  [.cells (outC e.outs) r1, .cells (inC e.ins) r2, .cells (endW e (adr e.oz 0) (adr z 1)) true, .map es c, .cells (xW e (adr e.oz 5) (adr z 1) 3) true, .cells (outC e.outs) true]
def envO (e : SE) (z : Bool) (i : Int) : Env := [(1, p2), (3, .pointer (some ⟨4, 0, none⟩)), (18, .slice (adr z 1) e.ins.length e.ins.length), (19, .int .i64 ((e.ins.length : Nat) : Int)), (20, .int .i64 i)]

theorem hO_in (e : SE) (z r1 r2 : Bool) (es : List MapEntry) (c : Nat) (hv : ∀ x ∈ es, ground x.val = true) : List.all (hO e z r1 r2 es c) (inO 6) = true := by
  have h1 := inVs_ground 6 _ (ground_outC e.outs)
  have h2 := inVs_ground 6 _ (ground_inC e.ins)
  have h3 : (es.all fun x => inV 6 x.val) = true := List.all_eq_true.2 fun x hx => inV_ground 6 _ (hv x hx)
  show (inV.goL 6 (outC e.outs) && (inV.goL 6 (inC e.ins) && (inV.goL 6 (endW e (adr e.oz 0) (adr z 1)) && ((es.all fun x => inV 6 x.val) && (inV.goL 6 (xW e (adr e.oz 5) (adr z 1) 3) && (inV.goL 6 (outC e.outs) && true)))))) = true
  rw [h1, h2, h3]
  cases e with | mk a b c d w oz iz outs ins => cases oz <;> cases z <;> rfl

theorem insF_app (pre : List (Int × ByteArray)) (x : Int × ByteArray) : insF (pre ++ [x]) = upd (insF pre) x.1 x.2 := by simp [insF, List.foldl_append]

theorem open_l (e : SE) (r1 r2 : Bool) (Qb : IExit → Env → IHeap → Prop) (hn : e.ins.length ≤ 9223372036854775807) : ∀ (post pre : List (Int × ByteArray)) (es : List MapEntry) (c : Nat), e.ins = pre ++ post → Look es (insF pre) →
    (∀ es c, Look es (insF e.ins) → Qb (.exit 0) (envO e false e.ins.length) (hO e false r1 r2 es c)) →
    LW none Pr 34 L42 Qb (envO e false (pre.length : Nat)) (hO e false r1 r2 es c) := by
  intro post
  induction post with
  | nil =>
    intro pre es c hp L hx
    refine loop_sxt (hs := [23]) (rf := true) mixed sc0_ok [1, 3, 18, 19, 20] 6 (by kernel_rfl) rfl ?_
    refine Eq.mp (α := (Ide.bcase (decide (((pre.length : Nat) : Int) < ((e.ins.length : Nat) : Int)))
 (0 ≤ ((pre.length : Nat) : Int) ∧ ((pre.length : Nat) : Int) < ((e.ins.length : Nat) : Int) ∧ (∃ n1 : Int, (inC e.ins)[(0 + Int.toNat ((pre.length : Nat) : Int) * 2)]? = some (Value.int IntKind.i64 n1) ∧ (∃ s2 : ByteArray, (inC e.ins)[((0 + Int.toNat ((pre.length : Nat) : Int) * 2) + 1)]? = some (Value.string s2) ∧ (true = true ∧ ∃ (es3 : List MapEntry) (c4 : Nat), Ide.putE Pr 3 es c (Value.int IntKind.i64 n1) (Value.string s2) (fun a b => a = es3 ∧ b = c4) ∧ (true = true ∧ List.all [.cells (outC e.outs) r1, .cells (inC e.ins) r2, .cells [Value.int IntKind.i64 e.life, Value.int IntKind.i64 e.peer, Value.int IntKind.i64 e.phase, Value.int IntKind.i64 e.base, Value.slice (adr e.oz 0) e.outs.length e.outs.length, Value.int IntKind.i64 e.want, Value.slice (some ⟨1, 0, some 4⟩) e.ins.length e.ins.length] true, .map es3 c4, .cells [Value.int IntKind.i64 e.life, Value.int IntKind.i64 e.peer, Value.int IntKind.i64 e.phase, Value.int IntKind.i64 e.base, Value.slice (adr e.oz 5) e.outs.length e.outs.length, Value.int IntKind.i64 e.want, Value.slice (some ⟨1, 0, some 4⟩) e.ins.length e.ins.length, Value.map (some 3)] true, .cells (outC e.outs) true] (Ide.inO 6) = true ∧ LW none Pr 34 L42 Qb [(1, Value.pointer (some ⟨2, 0, none⟩)), (3, Value.pointer (some ⟨4, 0, none⟩)), (18, Value.slice (some ⟨1, 0, some 4⟩) e.ins.length e.ins.length), (19, Value.int IntKind.i64 ((e.ins.length : Nat) : Int)), (20, Value.int IntKind.i64 (IntKind.wrap .i64 (((pre.length : Nat) : Int) + 1)))] [.cells (outC e.outs) r1, .cells (inC e.ins) r2, .cells [Value.int IntKind.i64 e.life, Value.int IntKind.i64 e.peer, Value.int IntKind.i64 e.phase, Value.int IntKind.i64 e.base, Value.slice (adr e.oz 0) e.outs.length e.outs.length, Value.int IntKind.i64 e.want, Value.slice (some ⟨1, 0, some 4⟩) e.ins.length e.ins.length] true, .map es3 c4, .cells [Value.int IntKind.i64 e.life, Value.int IntKind.i64 e.peer, Value.int IntKind.i64 e.phase, Value.int IntKind.i64 e.base, Value.slice (adr e.oz 5) e.outs.length e.outs.length, Value.int IntKind.i64 e.want, Value.slice (some ⟨1, 0, some 4⟩) e.ins.length e.ins.length, Value.map (some 3)] true, .cells (outC e.outs) true])))))
 (true = true ∧ List.all [.cells (outC e.outs) r1, .cells (inC e.ins) r2, .cells [Value.int IntKind.i64 e.life, Value.int IntKind.i64 e.peer, Value.int IntKind.i64 e.phase, Value.int IntKind.i64 e.base, Value.slice (adr e.oz 0) e.outs.length e.outs.length, Value.int IntKind.i64 e.want, Value.slice (some ⟨1, 0, some 4⟩) e.ins.length e.ins.length] true, .map es c, .cells [Value.int IntKind.i64 e.life, Value.int IntKind.i64 e.peer, Value.int IntKind.i64 e.phase, Value.int IntKind.i64 e.base, Value.slice (adr e.oz 5) e.outs.length e.outs.length, Value.int IntKind.i64 e.want, Value.slice (some ⟨1, 0, some 4⟩) e.ins.length e.ins.length, Value.map (some 3)] true, .cells (outC e.outs) true] (Ide.inO 6) = true ∧ Qb (.exit 0) [(1, Value.pointer (some ⟨2, 0, none⟩)), (3, Value.pointer (some ⟨4, 0, none⟩)), (18, Value.slice (some ⟨1, 0, some 4⟩) e.ins.length e.ins.length), (19, Value.int IntKind.i64 ((e.ins.length : Nat) : Int)), (20, Value.int IntKind.i64 ((pre.length : Nat) : Int))] [.cells (outC e.outs) r1, .cells (inC e.ins) r2, .cells [Value.int IntKind.i64 e.life, Value.int IntKind.i64 e.peer, Value.int IntKind.i64 e.phase, Value.int IntKind.i64 e.base, Value.slice (adr e.oz 0) e.outs.length e.outs.length, Value.int IntKind.i64 e.want, Value.slice (some ⟨1, 0, some 4⟩) e.ins.length e.ins.length] true, .map es c, .cells [Value.int IntKind.i64 e.life, Value.int IntKind.i64 e.peer, Value.int IntKind.i64 e.phase, Value.int IntKind.i64 e.base, Value.slice (adr e.oz 5) e.outs.length e.outs.length, Value.int IntKind.i64 e.want, Value.slice (some ⟨1, 0, some 4⟩) e.ins.length e.ins.length, Value.map (some 3)] true, .cells (outC e.outs) true]))) (by kernel_rfl) ?_
    have hl : pre.length = e.ins.length := by rw [hp]; simp
    refine bcI (fun h => ?_) (fun h => ?_)
    · exfalso; simp at h; omega
    · refine ⟨rfl, hO_in e false r1 r2 es c L.vals, ?_⟩
      rw [hl]
      exact hx es c (by rw [hp, List.append_nil]; exact L)
  | cons x post ih =>
    intro pre es c hp L hx
    refine loop_sxt (hs := [23]) (rf := true) mixed sc0_ok [1, 3, 18, 19, 20] 6 (by kernel_rfl) rfl ?_
    refine Eq.mp (α := (Ide.bcase (decide (((pre.length : Nat) : Int) < ((e.ins.length : Nat) : Int)))
 (0 ≤ ((pre.length : Nat) : Int) ∧ ((pre.length : Nat) : Int) < ((e.ins.length : Nat) : Int) ∧ (∃ n1 : Int, (inC e.ins)[(0 + Int.toNat ((pre.length : Nat) : Int) * 2)]? = some (Value.int IntKind.i64 n1) ∧ (∃ s2 : ByteArray, (inC e.ins)[((0 + Int.toNat ((pre.length : Nat) : Int) * 2) + 1)]? = some (Value.string s2) ∧ (true = true ∧ ∃ (es3 : List MapEntry) (c4 : Nat), Ide.putE Pr 3 es c (Value.int IntKind.i64 n1) (Value.string s2) (fun a b => a = es3 ∧ b = c4) ∧ (true = true ∧ List.all [.cells (outC e.outs) r1, .cells (inC e.ins) r2, .cells [Value.int IntKind.i64 e.life, Value.int IntKind.i64 e.peer, Value.int IntKind.i64 e.phase, Value.int IntKind.i64 e.base, Value.slice (adr e.oz 0) e.outs.length e.outs.length, Value.int IntKind.i64 e.want, Value.slice (some ⟨1, 0, some 4⟩) e.ins.length e.ins.length] true, .map es3 c4, .cells [Value.int IntKind.i64 e.life, Value.int IntKind.i64 e.peer, Value.int IntKind.i64 e.phase, Value.int IntKind.i64 e.base, Value.slice (adr e.oz 5) e.outs.length e.outs.length, Value.int IntKind.i64 e.want, Value.slice (some ⟨1, 0, some 4⟩) e.ins.length e.ins.length, Value.map (some 3)] true, .cells (outC e.outs) true] (Ide.inO 6) = true ∧ LW none Pr 34 L42 Qb [(1, Value.pointer (some ⟨2, 0, none⟩)), (3, Value.pointer (some ⟨4, 0, none⟩)), (18, Value.slice (some ⟨1, 0, some 4⟩) e.ins.length e.ins.length), (19, Value.int IntKind.i64 ((e.ins.length : Nat) : Int)), (20, Value.int IntKind.i64 (IntKind.wrap .i64 (((pre.length : Nat) : Int) + 1)))] [.cells (outC e.outs) r1, .cells (inC e.ins) r2, .cells [Value.int IntKind.i64 e.life, Value.int IntKind.i64 e.peer, Value.int IntKind.i64 e.phase, Value.int IntKind.i64 e.base, Value.slice (adr e.oz 0) e.outs.length e.outs.length, Value.int IntKind.i64 e.want, Value.slice (some ⟨1, 0, some 4⟩) e.ins.length e.ins.length] true, .map es3 c4, .cells [Value.int IntKind.i64 e.life, Value.int IntKind.i64 e.peer, Value.int IntKind.i64 e.phase, Value.int IntKind.i64 e.base, Value.slice (adr e.oz 5) e.outs.length e.outs.length, Value.int IntKind.i64 e.want, Value.slice (some ⟨1, 0, some 4⟩) e.ins.length e.ins.length, Value.map (some 3)] true, .cells (outC e.outs) true])))))
 (true = true ∧ List.all [.cells (outC e.outs) r1, .cells (inC e.ins) r2, .cells [Value.int IntKind.i64 e.life, Value.int IntKind.i64 e.peer, Value.int IntKind.i64 e.phase, Value.int IntKind.i64 e.base, Value.slice (adr e.oz 0) e.outs.length e.outs.length, Value.int IntKind.i64 e.want, Value.slice (some ⟨1, 0, some 4⟩) e.ins.length e.ins.length] true, .map es c, .cells [Value.int IntKind.i64 e.life, Value.int IntKind.i64 e.peer, Value.int IntKind.i64 e.phase, Value.int IntKind.i64 e.base, Value.slice (adr e.oz 5) e.outs.length e.outs.length, Value.int IntKind.i64 e.want, Value.slice (some ⟨1, 0, some 4⟩) e.ins.length e.ins.length, Value.map (some 3)] true, .cells (outC e.outs) true] (Ide.inO 6) = true ∧ Qb (.exit 0) [(1, Value.pointer (some ⟨2, 0, none⟩)), (3, Value.pointer (some ⟨4, 0, none⟩)), (18, Value.slice (some ⟨1, 0, some 4⟩) e.ins.length e.ins.length), (19, Value.int IntKind.i64 ((e.ins.length : Nat) : Int)), (20, Value.int IntKind.i64 ((pre.length : Nat) : Int))] [.cells (outC e.outs) r1, .cells (inC e.ins) r2, .cells [Value.int IntKind.i64 e.life, Value.int IntKind.i64 e.peer, Value.int IntKind.i64 e.phase, Value.int IntKind.i64 e.base, Value.slice (adr e.oz 0) e.outs.length e.outs.length, Value.int IntKind.i64 e.want, Value.slice (some ⟨1, 0, some 4⟩) e.ins.length e.ins.length] true, .map es c, .cells [Value.int IntKind.i64 e.life, Value.int IntKind.i64 e.peer, Value.int IntKind.i64 e.phase, Value.int IntKind.i64 e.base, Value.slice (adr e.oz 5) e.outs.length e.outs.length, Value.int IntKind.i64 e.want, Value.slice (some ⟨1, 0, some 4⟩) e.ins.length e.ins.length, Value.map (some 3)] true, .cells (outC e.outs) true]))) (by kernel_rfl) ?_
    have hl : e.ins.length = pre.length + post.length + 1 := by rw [hp]; simp; omega
    refine bcI (fun h => ?_) (fun h => ?_)
    · obtain ⟨es', c', h1, h2⟩ := look_put L c x.1 x.2
      have hi : 0 + Int.toNat ((pre.length : Nat) : Int) * 2 = 2 * pre.length := by simp; omega
      refine ⟨by omega, by omega, x.1, ?_, x.2, ?_, rfl, es', c', h1, rfl, hO_in e false r1 r2 es' c' h2.vals, ?_⟩
      · rw [hp, hi]; exact (inC_get pre x post).1
      · rw [hp, hi]; exact (inC_get pre x post).2
      · rw [wrap_i64 (by omega) (by omega), show ((pre.length : Nat) : Int) + 1 = (((pre ++ [x]).length : Nat) : Int) by simp]
        exact ih (pre ++ [x]) es' c' (by rw [hp]; simp) (by rw [insF_app]; exact h2) hx
    · exfalso; simp at h; omega

theorem open_lz (e : SE) (r1 r2 : Bool) (Qb : IExit → Env → IHeap → Prop) (ho : e.ins = []) (es : List MapEntry) (c : Nat) (L : Look es (insF e.ins))
    (hx : Qb (.exit 0) (envO e true 0) (hO e true r1 r2 es c)) : LW none Pr 34 L42 Qb (envO e true 0) (hO e true r1 r2 es c) := by
  refine loop_sxt (hs := [23]) (rf := true) mixed sc0_ok [1, 3, 18, 19, 20] 6 (by kernel_rfl) rfl ?_
  have hin := hO_in e true r1 r2 es c L.vals
  obtain ⟨life, peer, phase, base, want, oz, iz, outs, ins⟩ := e
  subst ho
  exact Eq.mp (α := true = true ∧ List.all (hO (SE.mk life peer phase base want oz iz outs []) true r1 r2 es c) (inO 6) = true ∧ Qb (.exit 0) (envO (SE.mk life peer phase base want oz iz outs []) true 0) (hO (SE.mk life peer phase base want oz iz outs []) true r1 r2 es c)) (by kernel_rfl) ⟨rfl, hin, hx⟩

def OpenR (e : SE) (v : Value) (ks : List Nat) (objs : IHeap) : Prop :=
  ∃ es c, Look es (insF e.ins) ∧ v = .pointer (some ⟨4, 0, none⟩) ∧ ks = [4, 5, 3] ∧ objs = [.cells (xW e (adr e.oz 5) (adr e.iz 1) 3) true, .cells (outC e.outs) true, .map es c]

theorem open_c {e : SE} (w : Wf e) (hn : e.outs.length ≤ 1000) (r1 r2 : Bool) : ICalls Pr 42 [endAt e 0 1] (endR e r1 r2) (NewsQ (endR e r1 r2) (OpenR e)) := by
  obtain ⟨R, hR⟩ : ∃ R, R = NewsQ (endR e r1 r2) (OpenR e) := ⟨_, rfl⟩
  rw [← hR]
  refine icalls_sx (by kernel_rfl) ?_
  rw [sp42]
  refine iwl_segk (hs := []) (rf := true) mixed (scO_ok w hn) [1, 3, 18, 19, 20] A42 _ _ (by kernel_rfl) ?_
  refine Eq.mp (α := (∃ (i : Nat) (r : Bool), Value.slice (adr e.oz 0) e.outs.length e.outs.length = Value.slice (adr e.oz i) e.outs.length e.outs.length ∧ (e.oz = false → ([.cells (outC e.outs) r1, .cells (inC e.ins) r2, .cells [Value.int IntKind.i64 e.life, Value.int IntKind.i64 e.peer, Value.int IntKind.i64 e.phase, Value.int IntKind.i64 e.base, Value.slice (adr e.oz 0) e.outs.length e.outs.length, Value.int IntKind.i64 e.want, Value.slice (adr e.iz 1) e.ins.length e.ins.length] true, .map ([]) 0, .cells [Value.int IntKind.i64 e.life, Value.int IntKind.i64 e.peer, Value.int IntKind.i64 e.phase, Value.int IntKind.i64 e.base, Value.slice (adr e.oz 0) e.outs.length e.outs.length, Value.int IntKind.i64 e.want, Value.slice (adr e.iz 1) e.ins.length e.ins.length, Value.map (some 3)] true] : IHeap)[i]? = some (.cells (outC e.outs) r)) ∧ (IWL none Pr 34 (.block 0 (.loop L42) :: C42) (bodyS Pr (ressOf Pr 42) R) [(1, Value.pointer (some ⟨2, 0, none⟩)), (3, Value.pointer (some ⟨4, 0, none⟩)), (18, Value.slice (adr e.iz 1) e.ins.length e.ins.length), (19, Value.int IntKind.i64 ((e.ins.length : Nat) : Int)), (20, Value.int IntKind.i64 0)] [.cells (outC e.outs) r1, .cells (inC e.ins) r2, .cells [Value.int IntKind.i64 e.life, Value.int IntKind.i64 e.peer, Value.int IntKind.i64 e.phase, Value.int IntKind.i64 e.base, Value.slice (adr e.oz 0) e.outs.length e.outs.length, Value.int IntKind.i64 e.want, Value.slice (adr e.iz 1) e.ins.length e.ins.length] true, .map ([]) 0, .cells [Value.int IntKind.i64 e.life, Value.int IntKind.i64 e.peer, Value.int IntKind.i64 e.phase, Value.int IntKind.i64 e.base, Value.slice (adr e.oz 5) e.outs.length e.outs.length, Value.int IntKind.i64 e.want, Value.slice (adr e.iz 1) e.ins.length e.ins.length, Value.map (some 3)] true, .cells (outC e.outs) true]))) (by kernel_rfl) ?_
  refine ⟨0, r1, rfl, fun _ => rfl, ?_⟩
  refine iwl_loop ?_
  have fin : ∀ (k : Int) (es : List MapEntry) (c : Nat), Look es (insF e.ins) → IWL none Pr 34 C42 (bodyS Pr (ressOf Pr 42) R) (envO e e.iz k) (hO e e.iz r1 r2 es c) := by
    intro k es c L
    refine iwl_last (hs := []) (rf := true) mixed sc0_ok C42 (by kernel_rfl) ?_
    refine Eq.mp (α := R (IEnd.ret (.pointer (some ⟨4, 0, none⟩))) (hO e e.iz r1 r2 es c)) (by kernel_rfl) ?_
    rw [hR]
    refine ⟨_, [4, 5, 3], [.cells (xW e (adr e.oz 5) (adr e.iz 1) 3) true, .cells (outC e.outs) true, .map es c], rfl, rfl, .of [.cells (endW e (adr e.oz 0) (adr e.iz 1)) true, .map es c, .cells (xW e (adr e.oz 5) (adr e.iz 1) 3) true, .cells (outC e.outs) true] rfl (by decide) rfl ⟨⟨.inr ?_, fun _ => rfl⟩, ⟨.inl (ground_outC _), fun _ => rfl⟩, ⟨.inl (look_plain L c), fun _ => rfl⟩, trivial⟩, es, c, L, rfl, rfl, rfl⟩
    show idV.goL _ (xW e (adr e.oz 5) (adr e.iz 1) 3) = true
    cases e with | mk a b c d w oz iz outs ins => cases oz <;> cases iz <;> rfl
  cases hz : e.iz with
  | true =>
    have ho := w.iz hz
    rw [hz] at fin
    exact open_lz e r1 r2 _ ho [] 0 (by rw [ho]; exact look_nil) (fin 0 [] 0 (by rw [ho]; exact look_nil))
  | false =>
    rw [hz] at fin
    exact open_l e r1 r2 _ w.inn e.ins [] [] 0 rfl look_nil (fun es c L => fin _ es c L)

theorem open_at {e : SE} (w : Wf e) (hn : e.outs.length ≤ 1000) {i j : Nat} {r1 r2 : Bool} {H : IHeap} (h1 : H[i]? = some (.cells (outC e.outs) r1)) (h2 : H[j]? = some (.cells (inC e.ins) r2)) (hij : i ≠ j) :
    ICalls Pr 42 [endAt e i j] H (fun r H' => ∃ es c, Look es (insF e.ins) ∧ r = .ret (.pointer (some ⟨H.length, 0, none⟩)) ∧ H' = H ++ [.cells (xW e (adr e.oz (H.length + 1)) (adr e.iz j) (H.length + 2)) true, .cells (outC e.outs) true, .map es c]) := by
  have h3 := (open_c w hn r1 r2).news (H := H) [i, j] rfl (by simp [hij]) ?_ ?_
  · have e1 : renV.goL (rho [i, j]) [endAt e 0 1] = [endAt e i j] := by
      cases e with | mk a b c d w oz iz outs ins => cases oz <;> cases iz <;> rfl
    rw [e1] at h3
    refine h3.mono fun r H' hr => ?_
    obtain ⟨v, ks, objs, ⟨es, c, L, rfl, rfl, rfl⟩, rfl, rfl⟩ := hr
    refine ⟨es, c, L, rfl, ?_⟩
    congr 1
    show [renO _ (.cells (xW e (adr e.oz 5) (adr e.iz 1) 3) true), renO _ (.cells (outC e.outs) true), renO _ (.map es c)] = _
    rw [renO_plain (o := .cells (outC e.outs) true) _ (ground_outC e.outs), renO_plain (o := .map es c) _ (look_plain L c)]
    congr 1
    cases e with | mk a b c d w oz iz outs ins => cases oz <;> cases iz <;> rfl
  · cases e with | mk a b c d w oz iz outs ins => cases oz <;> cases iz <;> rfl
  · intro k o hk
    match k, hk with
    | 0, hk => cases hk; exact ⟨_, h1, .inl ⟨ground_outC _, rfl⟩⟩
    | 1, hk => cases hk; exact ⟨_, h2, .inl ⟨ground_inC _, rfl⟩⟩

end Go.Proofs.Ytoikiogaiikheaa.Sess

/- Rounds that make plain memory that stays. -/
set_option linter.unusedVariables false
set_option linter.unusedSimpArgs false
namespace Ide
open Go Go.RowKit
variable [Pol]

def renEnv (σ : Nat → Nat) : Env → Env
  | [] => []
  | (t, v) :: e => (t, renV σ v) :: renEnv σ e
def envId (p : Nat → Bool) : Env → Bool
  | [] => true
  | (_, v) :: e => idV p v && envId p e

theorem lk_renEnv (σ : Nat → Nat) : ∀ (e : Env) (t : Nat), lk (renEnv σ e) t = renV σ (lk e t)
  | [], t => rfl
  | (u, v) :: e, t => by
    have := lk_renEnv σ e t
    simp only [renEnv, lk]
    cases Nat.beq u t with
    | true => rfl
    | false => exact this
theorem lk_envId {p : Nat → Bool} : ∀ {e : Env}, envId p e = true → ∀ t, idV p (lk e t) = true
  | [], _, t => rfl
  | (u, v) :: e, h, t => by
    simp only [envId, Bool.and_eq_true] at h
    have := lk_envId h.2 t
    simp only [lk]
    cases Nat.beq u t with
    | true => exact h.1
    | false => exact this

def NewP (H : IHeap) : List Nat → IHeap → Prop
  | k :: ks, o :: objs => (plainO o = true ∧ H[k]? = some o) ∧ NewP H ks objs
  | [], [] => True
  | _, _ => False
theorem NewP.len {H : IHeap} : ∀ {ks : List Nat} {objs : IHeap}, NewP H ks objs → ks.length = objs.length
  | _ :: _, _ :: _, h => congrArg (· + 1) h.2.len
  | [], [], _ => rfl
  | [], _ :: _, h => h.elim
  | _ :: _, [], h => h.elim
theorem NewP.get {H : IHeap} : ∀ {ks : List Nat} {objs : IHeap}, NewP H ks objs → ∀ (j k : Nat) (o : IObj), ks[j]? = some k → objs[j]? = some o → plainO o = true ∧ H[k]? = some o
  | _ :: _, _ :: _, h, 0, k, o, hk, ho => by simp at hk ho; subst hk; subst ho; exact h.1
  | _ :: _, _ :: _, h, j + 1, k, o, hk, ho => h.2.get j k o (by simpa using hk) (by simpa using ho)
  | [], [], _, j, k, o, hk, _ => by simp at hk
  | [], _ :: _, h, _, _, _, _, _ => h.elim
  | _ :: _, [], h, _, _, _, _, _ => h.elim

theorem renO_id {o : IObj} {p : Nat → Bool} (h : idO p o = true) : renO id o = o := by
  match o, h with
  | .cells cs rw, _ => simp only [renO]; rw [ren_ids]
  | .map es c, _ =>
    simp only [renO]
    congr 1
    unfold renEs
    have : ∀ e ∈ es, (fun e : MapEntry => { e with val := renV id e.val }) e = e := fun e he => by
      show { e with val := renV id e.val } = e
      rw [ren_id]
    exact (List.map_congr_left this).trans (by simp)

theorem Recast.plain {m : Nat} {ks : List Nat} {env env2 : Env} {H objs : IHeap} (base tail : IHeap) (hH : H = base ++ tail) (hb : base.length = m)
    (hbo : ∀ o ∈ base, plainO o = true ∨ idO (fun i => Nat.blt i m) o = true) (he : env2 = renEnv (sig m ks) env) (hi : envId (kept m ks) env = true)
    (hnd : ks.Nodup) (hge : ks.all (Nat.ble m) = true) (hn : NewP H ks objs) : Recast m ks env H env2 (base ++ objs) where
  len := by rw [List.length_append, hb, hn.len]
  nodup := hnd
  ge := fun k hk => Nat.le_of_ble_eq_true (List.all_eq_true.1 hge k hk)
  env := fun t => by
    subst he
    exact .inr ⟨lk_renEnv _ env t, lk_envId hi t⟩
  low := fun j o hj ho => by
    rw [List.getElem?_append_left (by omega)] at ho
    refine ⟨o, by rw [hH, List.getElem?_append_left (by omega)]; exact ho, ?_⟩
    rcases hbo o (List.mem_of_getElem? ho) with h | h
    · exact .plain h
    · refine .ren (idO_mono (fun k hk => by unfold kept; rw [hk]; rfl) h) ?_
      rw [← renO_congr (p := fun i => Nat.blt i m) (σ := id) (fun k hk => ?_) h, renO_id h]
      unfold sig
      rw [hk]
      rfl
  high := fun j k o hk ho => by
    rw [List.getElem?_append_right (by omega), ← hb, Nat.add_sub_cancel_left] at ho
    obtain ⟨h1, h2⟩ := hn.get j k o hk ho
    exact ⟨o, h2, .plain h1⟩

/-- The leaf of a round of loop_sxr. -/
theorem recast_to {m : Nat} {env env2 : Env} {H H2 : IHeap} {G : Env → IHeap → Prop} (ks : List Nat) (objs base tail : IHeap) (hH : H = base ++ tail) (hb : base.length = m)
    (hbo : ∀ o ∈ base, plainO o = true ∨ idO (fun i => Nat.blt i m) o = true) (he : env2 = renEnv (sig m ks) env) (hi : envId (kept m ks) env = true)
    (hnd : ks.Nodup) (hge : ks.all (Nat.ble m) = true) (hn : NewP H ks objs) (h2 : H2 = base ++ objs) (h : G env2 H2) : ∃ ks env2 H2, Recast m ks env H env2 H2 ∧ G env2 H2 :=
  ⟨ks, env2, H2, by rw [h2]; exact Recast.plain base tail hH hb hbo he hi hnd hge hn, h⟩

end Ide

/- Slots: a function's own objects get small ids, whatever its caller's heap is; ids are given anew. -/
set_option linter.unusedVariables false
set_option linter.unusedSimpArgs false
namespace Ide
open Go Go.RowKit

/-! ### the numbering -/
def freeAt : Nat → Nat → IHeap → Option Nat
  | 0, _, _ => none
  | _ + 1, _, [] => none
  | _ + 1, i, .free :: _ => some i
  | f + 1, i, _ :: r => freeAt f (i + 1) r

theorem freeAt_spec : ∀ (f i : Nat) (H : IHeap) (k : Nat), freeAt f i H = some k → i ≤ k ∧ H[k - i]? = some .free := by
  intro f
  induction f with
  | zero => intro i H k h; cases h
  | succ f ih =>
    intro i H k h
    cases H with
    | nil => cases h
    | cons o r =>
      have key : freeAt f (i + 1) r = some k → i ≤ k ∧ (o :: r)[k - i]? = some .free := fun h => by
        obtain ⟨h1, h2⟩ := ih (i + 1) r k h
        refine ⟨by omega, ?_⟩
        rw [show k - i = (k - (i + 1)) + 1 by omega]
        exact h2
      cases o with
      | free => simp only [freeAt] at h; cases h; simp
      | _ => exact key h

theorem freeAt_kill : ∀ (f p : Nat) (H : IHeap) (i : Nat) (cs : List Value), H[i]? = some (.cells cs true) → freeAt f p (H.set i .dead) = freeAt f p H := by
  intro f
  induction f with
  | zero => intro p H i cs h; rfl
  | succ f ih =>
    intro p H i cs h
    cases H with
    | nil => rfl
    | cons o r =>
      cases i with
      | zero =>
        simp at h
        subst h
        rfl
      | succ i =>
        have := ih (p + 1) r i cs (by simpa using h)
        cases o with
        | free => rfl
        | _ => exact this

instance slotPol : Pol where
  pos H := match freeAt 64 0 H with | some k => k | none => H.length
  ok H := by
    cases h : freeAt 64 0 H with
    | none => exact .inl rfl
    | some k => exact .inr (by simpa using (freeAt_spec 64 0 H k h).2)
  kill H i cs h := by
    simp only [freeAt_kill 64 0 H i cs h, List.length_set]

/-- A function's own objects, then its caller's. -/
def pad : Nat → List IObj → IHeap → IHeap
  | 0, _, b => b
  | n + 1, [], b => .free :: pad n [] b
  | n + 1, o :: l, b => o :: pad n l b

theorem pad_len : ∀ (n : Nat) (l : List IObj) (b : IHeap), (pad n l b).length = n + b.length
  | 0, _, b => by simp [pad]
  | n + 1, [], b => by simp [pad, pad_len n [] b]; omega
  | n + 1, o :: l, b => by simp [pad, pad_len n l b]; omega
theorem pad_low : ∀ (n : Nat) (l : List IObj) (b : IHeap) (i : Nat), i < n → (pad n l b)[i]? = some (l.getD i .free)
  | 0, _, b, i, h => by omega
  | n + 1, [], b, 0, h => rfl
  | n + 1, [], b, i + 1, h => by simpa [pad] using pad_low n [] b i (by omega)
  | n + 1, o :: l, b, 0, h => rfl
  | n + 1, o :: l, b, i + 1, h => by simpa [pad] using pad_low n l b i (by omega)
theorem pad_high : ∀ (n : Nat) (l : List IObj) (b : IHeap) (i : Nat), (pad n l b)[i + n]? = b[i]?
  | 0, _, b, i => rfl
  | n + 1, [], b, i => by rw [show i + (n + 1) = (i + n) + 1 by omega]; simpa [pad] using pad_high n [] b i
  | n + 1, o :: l, b, i => by rw [show i + (n + 1) = (i + n) + 1 by omega]; simpa [pad] using pad_high n l b i
theorem pad_get (l : List IObj) (b : IHeap) {i : Nat} (h : 64 ≤ i) : (pad 64 l b)[i]? = b[i - 64]? := by
  have := pad_high 64 l b (i - 64)
  rwa [show i - 64 + 64 = i by omega] at this
theorem pad_append : ∀ (n : Nat) (l : List IObj) (b c : IHeap), pad n l b ++ c = pad n l (b ++ c)
  | 0, _, b, c => rfl
  | n + 1, [], b, c => by simp [pad, pad_append n [] b c]
  | n + 1, o :: l, b, c => by simp [pad, pad_append n l b c]
theorem pad_set : ∀ (n : Nat) (l : List IObj) (b : IHeap) (i : Nat) (o : IObj), (pad n l b).set (i + n) o = pad n l (b.set i o)
  | 0, _, b, i, o => rfl
  | n + 1, [], b, i, o => by rw [show i + (n + 1) = (i + n) + 1 by omega]; simpa [pad] using pad_set n [] b i o
  | n + 1, x :: l, b, i, o => by rw [show i + (n + 1) = (i + n) + 1 by omega]; simpa [pad] using pad_set n l b i o

/-! ### ids given anew, or forgotten -/
def mvV (σ : Nat → Option Nat) : Value → Value
  | .pointer (some ⟨i, o, s⟩) => (match σ i with | some j => .pointer (some ⟨j, o, s⟩) | none => anyV)
  | .slice (some ⟨i, o, s⟩) n m => (match σ i with | some j => .slice (some ⟨j, o, s⟩) n m | none => anyV)
  | .map (some i) => (match σ i with | some j => .map (some j) | none => anyV)
  | .func (.yield i) a c => (match σ i with | some j => .func (.yield j) (go a) (go c) | none => anyV)
  | .func f a c => .func f (go a) (go c)
  | .iface t v => .iface t (mvV σ v)
  | .agg cs => .agg (go cs)
  | .tuple cs => .tuple (go cs)
  | v => v
  where
  go : Array Value → Array Value
    | ⟨l⟩ => ⟨goL l⟩
  goL : List Value → List Value
    | [] => []
    | v :: l => mvV σ v :: goL l


mutual
theorem VRel.mv {σ : Nat → Option Nat} {L L' : LMap} (hL : ∀ i j l, σ i = some j → L i = some l → L' j = some l) : ∀ {v v' : Value}, VRel L v v' → VRel L' (mvV σ v) v'
  | _, _, .any v => .any v
  | _, _, .bool b => .bool b
  | _, _, .int k n => .int k n
  | _, _, .str s => .str s
  | _, _, .ptrNil => .ptrNil
  | _, _, .ptr (id := i) h => by
    simp only [mvV]
    cases hs : σ i with
    | none => exact .any _
    | some j => exact .ptr (hL _ _ _ hs h)
  | _, _, .sliceNil => .sliceNil
  | _, _, .sliceE (id := i) => by
    simp only [mvV]
    cases hs : σ i with
    | none => exact .any _
    | some j => exact .sliceE
  | _, _, .slice (id := i) h hn hm hx ho hb => by
    simp only [mvV]
    cases hs : σ i with
    | none => exact .any _
    | some j => exact .slice (hL _ _ _ hs h) hn hm hx ho hb
  | _, _, .mapNil => .mapNil
  | _, _, .map (id := i) h => by
    simp only [mvV]
    cases hs : σ i with
    | none => exact .any _
    | some j => exact .map (hL _ _ _ hs h)
  | _, _, .func h1 h2 => by simp only [mvV, mvV.go]; exact .func (VsRel.mv hL h1) (VsRel.mv hL h2)
  | _, _, .yield (id := i) h => by
    simp only [mvV, mvV.go, mvV.goL]
    cases hs : σ i with
    | none => exact .any _
    | some j => exact .yield (hL _ _ _ hs h)
  | _, _, .nilFunc => .nilFunc
  | _, _, .nilIface => .nilIface
  | _, _, .iface h => .iface (VRel.mv hL h)
  | _, _, .agg h => by simp only [mvV, mvV.go]; exact .agg (VsRel.mv hL h)
  | _, _, .tuple h => by simp only [mvV, mvV.go]; exact .tuple (VsRel.mv hL h)
theorem VsRel.mv {σ : Nat → Option Nat} {L L' : LMap} (hL : ∀ i j l, σ i = some j → L i = some l → L' j = some l) : ∀ {a b : List Value}, VsRel L a b → VsRel L' (mvV.goL σ a) b
  | _, _, .nil => .nil
  | _, _, .cons h t => .cons (VRel.mv hL h) (VsRel.mv hL t)
 end

theorem mvL_len (σ : Nat → Option Nat) : ∀ l : List Value, (mvV.goL σ l).length = l.length
  | [] => rfl
  | v :: l => congrArg (· + 1) (mvL_len σ l)
theorem mvL_get (σ : Nat → Option Nat) : ∀ (l : List Value) (i : Nat), (mvV.goL σ l)[i]? = (l[i]?).map (mvV σ)
  | [], i => by simp [mvV.goL]
  | v :: l, 0 => rfl
  | v :: l, i + 1 => by simpa [mvV.goL] using mvL_get σ l i
theorem mvL_append (σ : Nat → Option Nat) : ∀ (a b : List Value), mvV.goL σ (a ++ b) = mvV.goL σ a ++ mvV.goL σ b
  | [], b => rfl
  | v :: a, b => by simp [mvV.goL, mvL_append σ a b]
theorem mvL_set (σ : Nat → Option Nat) : ∀ (l : List Value) (i : Nat) (v : Value), mvV.goL σ (l.set i v) = (mvV.goL σ l).set i (mvV σ v)
  | [], i, v => rfl
  | x :: l, 0, v => rfl
  | x :: l, i + 1, v => by simp [mvV.goL, mvL_set σ l i v]

mutual
theorem mvV_ground (σ : Nat → Option Nat) : ∀ (v : Value), ground v = true → mvV σ v = v
  | .bool _, _ => rfl
  | .int .., _ => rfl
  | .string _, _ => rfl
  | .pointer none, _ => rfl
  | .pointer (some _), h => by simp [ground] at h
  | .slice none _ _, _ => rfl
  | .slice (some _) _ _, h => by simp [ground] at h
  | .map none, _ => rfl
  | .map (some _), h => by simp [ground] at h
  | .nilFunc, _ => rfl
  | .nilIface, _ => rfl
  | .iface t v, h => by simp only [mvV]; rw [mvV_ground σ v (by simpa [ground] using h)]
  | .agg ⟨l⟩, h => by simp only [mvV, mvV.go]; rw [mvL_ground σ l (by simpa [ground, ground.groundA] using h)]
  | .float .., h => by simp [ground] at h
  | .complex .., h => by simp [ground] at h
  | .chan _, h => by simp [ground] at h
  | .func .., h => by simp [ground] at h
  | .tuple _, h => by simp [ground] at h
theorem mvL_ground (σ : Nat → Option Nat) : ∀ (l : List Value), ground.groundL l = true → mvV.goL σ l = l
  | [], _ => rfl
  | v :: l, h => by
    have h' : ground v = true ∧ ground.groundL l = true := by simpa [ground.groundL] using h
    show mvV σ v :: mvV.goL σ l = _
    rw [mvV_ground σ v h'.1, mvL_ground σ l h'.2]
 end

/-- Values all of whose ids are as wanted. -/
def allV (p : Nat → Prop) : Value → Prop
  | .pointer (some ⟨i, _, _⟩) => p i
  | .slice (some ⟨i, _, _⟩) _ _ => p i
  | .map (some i) => p i
  | .func (.yield i) a c => p i ∧ go a ∧ go c
  | .func _ a c => go a ∧ go c
  | .iface _ v => allV p v
  | .agg cs => go cs
  | .tuple cs => go cs
  | _ => True
  where
  go : Array Value → Prop
    | ⟨l⟩ => goL l
  goL : List Value → Prop
    | [] => True
    | v :: l => allV p v ∧ goL l

mutual
/-- Two givings, one behind the other, that come to the first ids again. -/
theorem mvV_back {σ τ : Nat → Option Nat} {p : Nat → Prop} (h : ∀ i, p i → ∃ j, σ i = some j ∧ τ j = some i) : ∀ (v : Value), allV p v → mvV τ (mvV σ v) = v
  | .bool _, _ => rfl
  | .int .., _ => rfl
  | .string _, _ => rfl
  | .pointer none, _ => rfl
  | .pointer (some ⟨i, o, s⟩), hp => by
    obtain ⟨j, h1, h2⟩ := h i hp
    simp only [mvV, h1, h2]
  | .slice none _ _, _ => rfl
  | .slice (some ⟨i, o, s⟩) n m, hp => by
    obtain ⟨j, h1, h2⟩ := h i hp
    simp only [mvV, h1, h2]
  | .map none, _ => rfl
  | .map (some i), hp => by
    obtain ⟨j, h1, h2⟩ := h i hp
    simp only [mvV, h1, h2]
  | .nilFunc, _ => rfl
  | .nilIface, _ => rfl
  | .iface t v, hp => by simp only [mvV]; rw [mvV_back h v hp]
  | .agg ⟨l⟩, hp => by simp only [mvV, mvV.go]; rw [mvL_back h l hp]
  | .tuple ⟨l⟩, hp => by simp only [mvV, mvV.go]; rw [mvL_back h l hp]
  | .float .., _ => rfl
  | .complex .., _ => rfl
  | .chan _, _ => rfl
  | .func (.yield i) ⟨a⟩ ⟨c⟩, hp => by
    obtain ⟨hp, ha, hc⟩ := hp
    obtain ⟨j, h1, h2⟩ := h i hp
    simp only [mvV, mvV.go, h1, h2]
    rw [mvL_back h a ha, mvL_back h c hc]
  | .func (.func f) ⟨a⟩ ⟨c⟩, hp => by simp only [mvV, mvV.go]; rw [mvL_back h a hp.1, mvL_back h c hp.2]
  | .func (.method m) ⟨a⟩ ⟨c⟩, hp => by simp only [mvV, mvV.go]; rw [mvL_back h a hp.1, mvL_back h c hp.2]
  | .func (.methodOf t m) ⟨a⟩ ⟨c⟩, hp => by simp only [mvV, mvV.go]; rw [mvL_back h a hp.1, mvL_back h c hp.2]
  | .func (.via t p f q) ⟨a⟩ ⟨c⟩, hp => by simp only [mvV, mvV.go]; rw [mvL_back h a hp.1, mvL_back h c hp.2]
theorem mvL_back {σ τ : Nat → Option Nat} {p : Nat → Prop} (h : ∀ i, p i → ∃ j, σ i = some j ∧ τ j = some i) : ∀ (l : List Value), allV.goL p l → mvV.goL τ (mvV.goL σ l) = l
  | [], _ => rfl
  | v :: l, hp => by
    show mvV τ (mvV σ v) :: mvV.goL τ (mvV.goL σ l) = _
    rw [mvV_back h v hp.1, mvL_back h l hp.2]
end

mutual
theorem allV_true : ∀ (v : Value), allV (fun _ => True) v
  | .bool _ => trivial
  | .int .. => trivial
  | .string _ => trivial
  | .pointer none => trivial
  | .pointer (some ⟨i, o, s⟩) => trivial
  | .slice none _ _ => trivial
  | .slice (some ⟨i, o, s⟩) n m => trivial
  | .map none => trivial
  | .map (some i) => trivial
  | .nilFunc => trivial
  | .nilIface => trivial
  | .iface t v => allV_true v
  | .agg ⟨l⟩ => allL_true l
  | .tuple ⟨l⟩ => allL_true l
  | .float .. => trivial
  | .complex .. => trivial
  | .chan _ => trivial
  | .func (.yield i) ⟨a⟩ ⟨c⟩ => ⟨trivial, allL_true a, allL_true c⟩
  | .func (.func f) ⟨a⟩ ⟨c⟩ => ⟨allL_true a, allL_true c⟩
  | .func (.method m) ⟨a⟩ ⟨c⟩ => ⟨allL_true a, allL_true c⟩
  | .func (.methodOf t m) ⟨a⟩ ⟨c⟩ => ⟨allL_true a, allL_true c⟩
  | .func (.via t p f q) ⟨a⟩ ⟨c⟩ => ⟨allL_true a, allL_true c⟩
theorem allL_true : ∀ (l : List Value), allV.goL (fun _ => True) l
  | [] => trivial
  | v :: l => ⟨allV_true v, allL_true l⟩
end

def mvEnv (σ : Nat → Option Nat) : Env → Env
  | [] => []
  | (t, v) :: e => (t, mvV σ v) :: mvEnv σ e
theorem lk_mvEnv (σ : Nat → Option Nat) : ∀ (e : Env) (t : Nat), lk (mvEnv σ e) t = mvV σ (lk e t)
  | [], t => rfl
  | (u, v) :: e, t => by
    have := lk_mvEnv σ e t
    simp only [mvEnv, lk]
    cases Nat.beq u t with
    | true => rfl
    | false => exact this

def mvEs (σ : Nat → Option Nat) (es : List MapEntry) : List MapEntry := es.map fun e => { e with val := mvV σ e.val }

def mvO (σ : Nat → Option Nat) : IObj → IObj
  | .cells cs rw => .cells (mvV.goL σ cs) rw
  | .map es c => .map (mvEs σ es) c
  | .loop st pend fn tm nt ps a b => .loop st pend fn (mvEnv σ tm) nt ps a b
  | .mapIter (some i) s n c => (match σ i with | some j => .mapIter (some j) s n c | none => .dead)
  | o => o

theorem mvO_own {σ : Nat → Option Nat} {o : IObj} (h : (mvO σ o).own = true) : o.own = true := by
  cases o with
  | cells cs rw => exact h
  | map es c => rfl
  | loop => rfl
  | mapIter m s n c => rfl
  | dead => cases h
  | free => cases h
theorem mvO_free {σ : Nat → Option Nat} {o : IObj} (h : mvO σ o = .free) : o = .free := by
  cases o with
  | free => rfl
  | mapIter m s n c =>
    cases m with
    | none => cases h
    | some i =>
      simp only [mvO] at h
      split at h <;> cases h
  | _ => cases h

theorem EsRel.mv {σ : Nat → Option Nat} {L L' : LMap} (hL : ∀ i j l, σ i = some j → L i = some l → L' j = some l) : ∀ {a b : List MapEntry}, EsRel L a b → EsRel L' (mvEs σ a) b
  | [], [], h => h
  | _ :: _, _ :: _, ⟨h1, h2, h3, h4, h5⟩ => ⟨h1, h2, h3, h4.mv hL, h5.mv hL⟩
  | [], _ :: _, h => h.elim
  | _ :: _, [], h => h.elim

theorem TRel.mv {σ : Nat → Option Nat} {L L' : LMap} (hL : ∀ i j l, σ i = some j → L i = some l → L' j = some l) {nt : Nat} {e : Env} {tm : Array Value} (h : TRel L nt e tm) : TRel L' nt (mvEnv σ e) tm :=
  ⟨h.1, fun t ht => by rw [lk_mvEnv]; exact (h.2 t ht).mv hL⟩

theorem ORel.mv {σ : Nat → Option Nat} {L L' : LMap} (hL : ∀ i j l, σ i = some j → L i = some l → L' j = some l) {w0 w : World} {l : Loc} {o : IObj} (h : ORel L w0 w l o) : ORel L' w0 w l (mvO σ o) := by
  match o, h with
  | .cells cs true, ⟨h0, h1, arr, T, vs, h2, h3, h3', h4, h5⟩ => exact ⟨h0, h1, arr, T, vs, h2, h3, by rw [mvL_len]; exact h3', h4.mv hL, h5⟩
  | .cells cs false, ⟨h0, h1, vs, h2, h3⟩ => exact ⟨h0, h1, vs, h2.mv hL, h3⟩
  | .dead, _ => trivial
  | .map es clock, ⟨h1, es', h2, h3⟩ => exact ⟨h1, es', h2, h3.mv hL⟩
  | .loop .., ⟨h1, tm', df, fn', h2, h3⟩ => exact ⟨h1, tm', df, fn', h2.mv hL, h3⟩
  | .mapIter none .., ⟨h1, h2, m', h3, h4⟩ => exact ⟨h1, h2, m', h3, h4⟩
  | .mapIter (some id) .., ⟨h1, h2, m', h3, lm, h4, h5⟩ =>
    simp only [mvO]
    cases hs : σ id with
    | none => trivial
    | some j => exact ⟨h1, h2, m', h3, lm, hL _ _ _ hs h4, h5⟩

theorem mvO_back {σ τ : Nat → Option Nat} (h : ∀ i, ∃ j, σ i = some j ∧ τ j = some i) (o : IObj) : mvO τ (mvO σ o) = o := by
  cases o with
  | cells cs rw => simp only [mvO]; rw [mvL_back (p := fun _ => True) (fun i _ => h i) cs (allL_true cs)]
  | map es c =>
    simp only [mvO]
    congr 1
    unfold mvEs
    rw [List.map_map]
    refine (List.map_congr_left fun e he => ?_).trans (List.map_id _)
    show { e with val := mvV τ (mvV σ e.val) } = e
    rw [mvV_back (p := fun _ => True) (fun i _ => h i) _ (allV_true _)]
  | loop st pend fn tm nt ps a b =>
    simp only [mvO]
    congr 1
    induction tm with
    | nil => rfl
    | cons x tm ih => obtain ⟨t, v⟩ := x; simp only [mvEnv]; rw [ih, mvV_back (p := fun _ => True) (fun i _ => h i) _ (allV_true _)]
  | mapIter m s n c =>
    cases m with
    | none => rfl
    | some i =>
      obtain ⟨j, h1, h2⟩ := h i
      simp only [mvO, h1, h2]
  | dead => rfl
  | free => rfl

theorem mvO_plain (σ : Nat → Option Nat) {o : IObj} (h : plainO o = true) : mvO σ o = o := by
  match o, h with
  | .free, _ => rfl
  | .cells cs rw, h => simp only [mvO]; rw [mvL_ground σ cs h]
  | .map es c, h =>
    simp only [mvO]
    congr 1
    unfold mvEs
    refine (List.map_congr_left fun e he => ?_).trans (List.map_id _)
    show { e with val := mvV σ e.val } = e
    rw [mvV_ground σ e.val (List.all_eq_true.1 h e he)]

/-! ### less is told -/
theorem Less.of_eq {v u : Value} (h : u = v) : Less v u := h ▸ Less.refl v
theorem Less.nil (id off q : Nat) : Less (.slice none 0 0) (.slice (some ⟨id, off, some q⟩) 0 0) := by
  intro L v' h
  cases h
  exact .sliceE
theorem LessL.refl : ∀ l : List Value, LessL l l
  | [] => trivial
  | v :: l => ⟨Less.refl v, LessL.refl l⟩
theorem LessL.len : ∀ {a b : List Value}, LessL a b → b.length = a.length
  | [], [], _ => rfl
  | _ :: _, _ :: _, h => congrArg (· + 1) h.2.len
  | [], _ :: _, h => h.elim
  | _ :: _, [], h => h.elim
def LessO (o o' : IObj) : Prop := o' = o ∨ ∃ cs ds rw, o = .cells cs rw ∧ o' = .cells ds rw ∧ LessL cs ds
theorem LessO.refl (o : IObj) : LessO o o := .inl rfl
theorem LessO.rel {L : LMap} {w0 w : World} {l : Loc} {o o' : IObj} (h : LessO o o') (hr : ORel L w0 w l o) : ORel L w0 w l o' := by
  rcases h with rfl | ⟨cs, ds, rw, rfl, rfl, hl⟩
  · exact hr
  · cases rw with
    | true => obtain ⟨h0, h1, arr, T, vs, h2, h3, h3', h4, h5⟩ := hr; exact ⟨h0, h1, arr, T, vs, h2, h3, by rw [hl.len]; exact h3', hl.rel h4, h5⟩
    | false => obtain ⟨h0, h1, vs, h2, h3⟩ := hr; exact ⟨h0, h1, vs, hl.rel h2, h3⟩
theorem LessO.own {o o' : IObj} (h : LessO o o') (hown : o'.own = true) : o.own = true := by
  rcases h with rfl | ⟨cs, ds, rw, rfl, rfl, hl⟩ <;> exact hown
theorem LessO.free {o : IObj} (h : LessO o .free) : o = .free := by
  rcases h with h | ⟨cs, ds, rw, h1, h2, hl⟩
  · exact h.symm
  · cases h2
def LessOs : List IObj → List IObj → Prop
  | [], [] => True
  | o :: a, o' :: b => LessO o o' ∧ LessOs a b
  | _, _ => False
theorem LessOs.refl : ∀ a : List IObj, LessOs a a
  | [] => trivial
  | o :: a => ⟨LessO.refl o, LessOs.refl a⟩
theorem LessOs.len : ∀ {a b : List IObj}, LessOs a b → b.length = a.length
  | [], [], _ => rfl
  | _ :: _, _ :: _, h => congrArg (· + 1) h.2.len
  | [], _ :: _, h => h.elim
  | _ :: _, [], h => h.elim
theorem LessOs.get : ∀ {a b : List IObj}, LessOs a b → ∀ {i : Nat} {o' : IObj}, b[i]? = some o' → ∃ o, a[i]? = some o ∧ LessO o o'
  | _ :: _, _ :: _, h, 0, o', ho => by simp at ho; subst ho; exact ⟨_, rfl, h.1⟩
  | _ :: _, _ :: _, h, i + 1, o', ho => h.2.get (by simpa using ho)
  | [], [], _, i, o', ho => by simp at ho
  | [], _ :: _, h, _, _, _ => h.elim
  | _ :: _, [], h, _, _, _ => h.elim

/-- What the slots that are kept come to; of a slot that is free anything may be thought. -/
def NewsAt (σ : Nat → Option Nat) (l : List IObj) : List Nat → List IObj → Prop
  | [], [] => True
  | k :: ks, o :: os => (l.getD k .free = .free ∨ LessO (mvO σ (l.getD k .free)) o) ∧ NewsAt σ l ks os
  | _, _ => False
theorem NewsAt.len {σ : Nat → Option Nat} {l : List IObj} : ∀ {ks : List Nat} {os : List IObj}, NewsAt σ l ks os → os.length = ks.length
  | [], [], _ => rfl
  | _ :: _, _ :: _, h => congrArg (· + 1) h.2.len
  | [], _ :: _, h => h.elim
  | _ :: _, [], h => h.elim
theorem NewsAt.get {σ : Nat → Option Nat} {l : List IObj} : ∀ {ks : List Nat} {os : List IObj}, NewsAt σ l ks os → ∀ {p k : Nat} {o : IObj}, ks[p]? = some k → os[p]? = some o → l.getD k .free = .free ∨ LessO (mvO σ (l.getD k .free)) o
  | _ :: _, _ :: _, h, 0, k, o, hk, ho => by simp at hk ho; subst hk; subst ho; exact h.1
  | _ :: _, _ :: _, h, p + 1, k, o, hk, ho => h.2.get (by simpa using hk) (by simpa using ho)
  | [], [], _, p, k, o, hk, _ => by simp at hk
  | [], _ :: _, h, _, _, _, _, _ => h.elim
  | _ :: _, [], h, _, _, _, _, _ => h.elim

/-! ### a call from any heap -/
def shU (i : Nat) : Option Nat := some (i + 64)
def shD (i : Nat) : Option Nat := bif Nat.ble 64 i then some (i - 64) else none
theorem sh_back (i : Nat) : ∃ j, shU i = some j ∧ shD j = some i := ⟨i + 64, rfl, by unfold shD; rw [Nat.ble_eq_true_of_le (by omega)]; simp⟩

/-- Ids as the caller knows them; those of the slots that are kept come last. -/
def unS (ks : List Nat) (N : Nat) (i : Nat) : Option Nat := bif Nat.ble 64 i then some (i - 64) else bif memN i ks then some (N + posN i ks) else none

/-- What a call over slots must come to. -/
def slotR (n : Nat) (R : IEnd → IHeap → Prop) (e : IEnd) (H' : IHeap) : Prop :=
  ∃ (l : List IObj) (base : IHeap) (ks : List Nat) (base2 objs : List IObj), H' = pad 64 l base ∧ n ≤ base.length ∧ ks.Nodup ∧ ks.all (Nat.blt · 64) = true ∧
    LessOs (base.map (mvO (unS ks base.length))) base2 ∧ NewsAt (unS ks base.length) l ks objs ∧
    match e with
    | .ret v => ∃ u, Less (mvV (unS ks base.length) v) u ∧ R (.ret u) (base2 ++ objs)
    | .panic v => R (.panic (mvV (unS ks base.length) v)) (base2 ++ objs)

theorem ICalls.slots {P : Program} {f : FuncId} {args : List Value} {H : IHeap} {R : IEnd → IHeap → Prop}
    (h : ICalls P f (mvV.goL shU args) (pad 64 [] (H.map (mvO shU))) (slotR H.length R)) : ICalls P f args H R := by
  refine ⟨h.1, fun β w args' S hargs => ?_⟩
  let βc : Emb := { w0 := β.w0, loc := fun i => if 64 ≤ i then β.loc (i - 64) else none, held := fun i => 64 ≤ i ∧ β.held (i - 64) }
  have hin : ∀ i j l, shU i = some j → β.loc i = some l → βc.loc j = some l := by
    intro i j l hs hl
    cases hs
    show (if 64 ≤ i + 64 then β.loc (i + 64 - 64) else none) = some l
    rw [if_pos (by omega), Nat.add_sub_cancel]
    exact hl
  have hout : ∀ {j l}, βc.loc j = some l → 64 ≤ j ∧ β.loc (j - 64) = some l := by
    intro j l hl
    have hl : (if 64 ≤ j then β.loc (j - 64) else none) = some l := hl
    split at hl
    · exact ⟨‹_›, hl⟩
    · cases hl
  have hget : ∀ {j : Nat}, 64 ≤ j → (pad 64 [] (H.map (mvO shU)))[j]? = (H[j - 64]?).map (mvO shU) := fun hj => by rw [pad_get _ _ hj, List.getElem?_map]
  have Sc : Sim βc (pad 64 [] (H.map (mvO shU))) w := {
    below := S.below
    dom := fun id l hl => by have h1 := hout hl; have := S.dom _ _ h1.2; rw [pad_len]; simp; omega
    held := fun id hh => by
      obtain ⟨h1, h2, h3⟩ := S.held _ hh.2
      refine ⟨by rw [pad_len]; have := hh.1; simp; omega, ?_, fun h4 => ?_⟩
      · show (if 64 ≤ id then β.loc (id - 64) else none) = none
        rw [if_pos hh.1]; exact h2
      · rw [hget hh.1] at h4
        obtain ⟨o, h5, h6⟩ := Option.map_eq_some_iff.1 h4
        rw [mvO_free h6] at h5
        exact h3 h5
    blk := fun id l hl => S.blk _ l (hout hl).2
    obj := fun id l o hl ho => by
      obtain ⟨h1, h2⟩ := hout hl
      rw [hget h1] at ho
      obtain ⟨o', h3, rfl⟩ := Option.map_eq_some_iff.1 ho
      exact (S.obj _ l o' h2 h3).mv hin
    inj := fun i j l l' o o' hl hl' ho ho' hown hown' hb => by
      obtain ⟨h1, h2⟩ := hout hl
      obtain ⟨h3, h4⟩ := hout hl'
      rw [hget h1] at ho
      rw [hget h3] at ho'
      obtain ⟨p, p1, rfl⟩ := Option.map_eq_some_iff.1 ho
      obtain ⟨q, q1, rfl⟩ := Option.map_eq_some_iff.1 ho'
      have := S.inj _ _ l l' p q h2 h4 p1 q1 (mvO_own hown) (mvO_own hown') hb
      omega }
  refine (h.2 βc w args' Sc (hargs.mv hin)).mono fun e w' hA => ?_
  obtain ⟨β', H', St, S', hE⟩ := hA
  have main : ∀ (R' : IHeap → Prop) (u : (Nat → Option Nat) → Prop) (x : IEnd), slotR H.length R x H' →
      ∃ (β2 : Emb) (H2 : IHeap) (σ : Nat → Option Nat), Step β w β2 w' ∧ Sim β2 H2 w' ∧ (∀ i j l, σ i = some j → β'.loc i = some l → β2.loc j = some l) ∧
        (match x with | .ret v => ∃ u, Less (mvV σ v) u ∧ R (.ret u) H2 | .panic v => R (.panic (mvV σ v)) H2) := by
    intro _ _ x hx
    obtain ⟨l, base, ks, base2, objs, rfl, hn, hnd, hks, hb2, hob, hR⟩ := hx
    have hb2l : base2.length = base.length := by rw [hb2.len]; simp
    have hk64 : ∀ {p k : Nat}, ks[p]? = some k → k < 64 := fun {p k} hp => by
      have := List.all_eq_true.1 hks k (List.mem_of_getElem? hp)
      simpa [Nat.blt_eq] using this
    let loc2 : LMap := fun j => if j < base.length then β'.loc (j + 64) else (ks[j - base.length]?).bind β'.loc
    have lowL : ∀ {j}, j < base.length → loc2 j = β'.loc (j + 64) := fun hj => if_pos hj
    have highL : ∀ {j}, ¬ j < base.length → loc2 j = (ks[j - base.length]?).bind β'.loc := fun hj => if_neg hj
    have hmv : ∀ i j l, unS ks base.length i = some j → β'.loc i = some l → loc2 j = some l := by
      intro i j l hs hl
      unfold unS at hs
      cases hb : Nat.ble 64 i with
      | true =>
        have hb' := Nat.le_of_ble_eq_true hb
        rw [hb] at hs
        simp only [cond_true] at hs
        cases hs
        have hd := S'.dom _ _ hl
        rw [pad_len] at hd
        rw [lowL (by omega), show i - 64 + 64 = i by omega]
        exact hl
      | false =>
        rw [hb] at hs
        simp only [cond_false] at hs
        cases hm : memN i ks with
        | true =>
          rw [hm] at hs
          simp only [cond_true] at hs
          cases hs
          rw [highL (by omega), Nat.add_sub_cancel_left, posN_get (memN_iff.1 hm)]
          exact hl
        | false => rw [hm] at hs; cases hs
    -- where an id comes from
    have src : ∀ {j lc o}, loc2 j = some lc → (base2 ++ objs)[j]? = some o →
        ∃ i o', β'.loc i = some lc ∧ (pad 64 l base)[i]? = some o' ∧ LessO (mvO (unS ks base.length) o') o ∧ ((j < base.length ∧ i = j + 64) ∨ (base.length ≤ j ∧ i < 64 ∧ ks[j - base.length]? = some i)) := by
      intro j lc o hl ho
      by_cases hj : j < base.length
      · rw [lowL hj] at hl
        rw [List.getElem?_append_left (by omega)] at ho
        obtain ⟨p, hp, hle⟩ := hb2.get ho
        rw [List.getElem?_map] at hp
        obtain ⟨o', h1, rfl⟩ := Option.map_eq_some_iff.1 hp
        exact ⟨_, o', hl, by rw [pad_high]; exact h1, hle, .inl ⟨hj, rfl⟩⟩
      · rw [highL hj] at hl
        obtain ⟨k, h1, h2⟩ := Option.bind_eq_some_iff.1 hl
        rw [List.getElem?_append_right (by omega), hb2l] at ho
        have hlow := pad_low 64 l base k (hk64 h1)
        rcases hob.get h1 ho with h3 | h3
        · rw [h3] at hlow
          exact (S'.obj k lc _ h2 hlow).elim
        · exact ⟨k, _, h2, hlow, h3, .inr ⟨by omega, hk64 h1, h1⟩⟩
    have blk' : ∀ {j lc}, loc2 j = some lc → ∃ i, β'.loc i = some lc := by
      intro j lc hl
      by_cases hj : j < base.length
      · rw [lowL hj] at hl; exact ⟨_, hl⟩
      · rw [highL hj] at hl
        obtain ⟨k, _, h2⟩ := Option.bind_eq_some_iff.1 hl
        exact ⟨k, h2⟩
    refine ⟨{ w0 := β.w0, loc := loc2, held := β.held }, _, unS ks base.length, ?_, ?_, hmv, hR⟩
    · exact {
        le := ⟨⟨rfl, rfl⟩, fun id lc hl => by
          have hd := S.dom id lc hl
          show loc2 id = some lc
          rw [lowL (by omega)]
          exact St.le.2 _ _ (hin id (id + 64) lc rfl hl)⟩
        size := St.size
        newb := fun j lc hl => by
          obtain ⟨i, hi⟩ := blk' hl
          rcases St.newb i lc hi with ⟨i0, l0, h1, h2⟩ | h
          · exact .inl ⟨_, l0, (hout h1).2, h2⟩
          · exact .inr h
        frame := fun k hk hne => St.frame k hk fun i li hli => hne _ li (hout hli).2 }
    · have ew : β'.w0 = β.w0 := St.le.1.1
      exact {
        below := by have := S'.below; rw [ew] at this; exact this
        dom := fun j lc hl => by
          have hl : loc2 j = some lc := hl
          by_cases hj : j < base.length
          · rw [List.length_append, hb2l]; omega
          · rw [highL hj] at hl
            obtain ⟨k, h1, _⟩ := Option.bind_eq_some_iff.1 hl
            have := (List.getElem?_eq_some_iff.1 h1).1
            rw [List.length_append, hb2l, hob.len]; omega
        held := fun id hh => by
          have h1 := (S.held id hh).1
          have hc : βc.held (id + 64) := ⟨by omega, by rw [Nat.add_sub_cancel]; exact hh⟩
          have hc' : β'.held (id + 64) := by rw [St.le.1.2]; exact hc
          obtain ⟨h2, h3, h4⟩ := S'.held _ hc'
          refine ⟨by rw [List.length_append, hb2l]; omega, ?_, fun h5 => ?_⟩
          · show loc2 id = none
            rw [lowL (by omega)]; exact h3
          · rw [List.getElem?_append_left (by omega)] at h5
            obtain ⟨p, hp, hle⟩ := hb2.get h5
            rw [List.getElem?_map] at hp
            obtain ⟨o', h6, h7⟩ := Option.map_eq_some_iff.1 hp
            rw [mvO_free (h7.trans hle.free)] at h6
            rw [pad_high] at h4
            exact h4 h6
        blk := fun j lc hl => by obtain ⟨i, hi⟩ := blk' hl; exact S'.blk i lc hi
        obj := fun j lc o hl ho => by
          obtain ⟨i, o', h1, h2, hle, _⟩ := src hl ho
          have := S'.obj i lc o' h1 h2
          rw [ew] at this
          exact hle.rel (this.mv hmv)
        inj := fun a b la lb o o' hl hl' ho ho' hown hown' hb => by
          obtain ⟨i, oi, a1, a2, ale, a3⟩ := src hl ho
          obtain ⟨j, oj, b1, b2, ble, b3⟩ := src hl' ho'
          have hij := S'.inj i j la lb oi oj a1 b1 a2 b2 (mvO_own (ale.own hown)) (mvO_own (ble.own hown')) hb
          subst hij
          rcases a3 with ⟨p1, p2⟩ | ⟨p1, p2, p3⟩ <;> rcases b3 with ⟨q1, q2⟩ | ⟨q1, q2, q3⟩
          · omega
          · omega
          · omega
          · have := nod_inj hnd p3 q3; omega }
  match e, hE with
  | .returned v', ⟨v, hv, hr⟩ =>
    obtain ⟨β2, H2, σ, g1, g2, g3, u, hu, g4⟩ := main (fun _ => True) (fun _ => True) _ hr
    exact ⟨β2, H2, g1, g2, u, hu _ _ (hv.mv g3), g4⟩
  | .panicked chain, ⟨v, v', hc, hv, hr⟩ =>
    obtain ⟨β2, H2, σ, g1, g2, g3, g4⟩ := main (fun _ => True) (fun _ => True) _ hr
    exact ⟨β2, H2, g1, g2, _, v', hc, hv.mv g3, g4⟩

end Ide
