/- Clone, open. -/
import Derived.Test.YtoikiogaiikheaaSndAQ
set_option linter.unusedSectionVars false
set_option linter.unusedVariables false
set_option linter.unusedSimpArgs false
set_option maxRecDepth 10000
namespace Go.Proofs.Ytoikiogaiikheaa.Sess
open Go Go.RowKit Ide Go.Proofs

theorem outC_len : ∀ l, (outC l).length = l.length * 2
  | [] => rfl
  | x :: l => by have := outC_len l; show (outC l).length + 1 + 1 = _; rw [this]; simp; omega
theorem inC_len : ∀ l, (inC l).length = l.length * 2
  | [] => rfl
  | x :: l => by have := inC_len l; show (inC l).length + 1 + 1 = _; rw [this]; simp; omega
theorem outC_all (l : List (ByteArray × Bool)) : List.take (l.length * 2) (List.drop 0 (outC l)) = outC l := by rw [List.drop_zero, ← outC_len, List.take_length]
theorem inC_all (l : List (Int × ByteArray)) : List.take (l.length * 2) (List.drop 0 (inC l)) = inC l := by rw [List.drop_zero, ← inC_len, List.take_length]
theorem outC_ok : ∀ l, List.all (outC l) okCell = true
  | [] => rfl
  | x :: l => by show (true && (true && List.all (outC l) okCell)) = true; rw [outC_ok l]; rfl
theorem inC_ok : ∀ l, List.all (inC l) okCell = true
  | [] => rfl
  | x :: l => by show (true && (true && List.all (inC l) okCell)) = true; rw [inC_ok l]; rfl
theorem outC_append (a b) : outC (a ++ b) = outC a ++ outC b := List.flatMap_append
theorem inC_append (a b) : inC (a ++ b) = inC a ++ inC b := List.flatMap_append

/-! ### Clone -/
def CloneR (l : List (ByteArray × Bool)) (v : Value) (ks : List Nat) (objs : IHeap) : Prop :=
  ∃ k q, v = .slice (some ⟨k, 0, some q⟩) l.length l.length ∧ (q = 2 * 2 ∨ q = 2 * 2 + 1) ∧ ks = [k] ∧ 1 ≤ k ∧ objs = [.cells (outC l) true]

theorem clone_c (x : ByteArray × Bool) (l : List (ByteArray × Bool)) (r : Bool) (hn : (x :: l).length ≤ 1000) : ICalls Pr 70 [.slice (some ⟨0, 0, some 4⟩) (x :: l).length (x :: l).length] [.cells (outC (x :: l)) r] (NewsQ [.cells (outC (x :: l)) r] (CloneR (x :: l))) := by
  obtain ⟨R, hR⟩ : ∃ R, R = NewsQ [.cells (outC (x :: l)) r] (CloneR (x :: l)) := ⟨_, rfl⟩
  rw [← hR]
  refine icalls_sxu (hs := []) 40 mixed sc0_ok (by kernel_rfl) (by kernel_rfl) ?_
  refine Eq.mp (α := (((0 + ((x :: l).length)) * 24 ≤ 70368744177664 ∧ 0 + ((x :: l).length) ≤ 70368744177664) ∧ (0 + 0 * 2 ≤ List.length ([] : List Value) ∧ (0 + ((x :: l).length) * 2 ≤ List.length ((outC (x :: l)) : List Value) ∧ (Ide.bcase (Nat.beq ((x :: l).length) 0)
 (R (IEnd.ret (Value.slice (some ⟨1, 0, some 5⟩) 0 0)) [.cells (outC (x :: l)) r, .cells [] true])
 ((2 = 2 ∧ List.all (List.take (((x :: l).length) * 2) (List.drop 0 (outC (x :: l)))) Ide.okCell = true) ∧ 0 < (0 + ((x :: l).length)) ∧ (R (IEnd.ret (Value.slice (some ⟨2, 0, some 4⟩) (0 + ((x :: l).length)) (0 + ((x :: l).length)))) [.cells (outC (x :: l)) r, .cells [] true, .cells (([] : List Value) ++ (List.take (((x :: l).length) * 2) (List.drop 0 (outC (x :: l))))) true]))))))) (by kernel_rfl) ?_
  refine ⟨⟨by omega, by omega⟩, by simp, by rw [outC_len]; omega, bcI (fun h => ?_) (fun h => ⟨⟨rfl, by rw [outC_all]; exact outC_ok _⟩, ?_, ?_⟩)⟩
  · exfalso; simp at h
  · simp
  · rw [hR, outC_all, List.nil_append, Nat.zero_add]
    exact ⟨_, [2], [.cells (outC (x :: l)) true], rfl, rfl, .of [.cells [] true, .cells (outC (x :: l)) true] rfl (by decide) rfl ⟨⟨.inl (ground_outC _), fun _ => rfl⟩, trivial⟩, 2, 4, rfl, .inl rfl, rfl, by decide, rfl⟩
theorem clone_0 (r : Bool) : ICalls Pr 70 [.slice (some ⟨0, 0, some 4⟩) 0 1] [.cells (outC []) r] (NewsQ [.cells (outC []) r] (CloneR [])) := by
  obtain ⟨R, hR⟩ : ∃ R, R = NewsQ [.cells (outC []) r] (CloneR []) := ⟨_, rfl⟩
  rw [← hR]
  refine icalls_sxu (hs := []) 40 mixed sc0_ok (by kernel_rfl) (by kernel_rfl) ?_
  refine Eq.mp (α := (((0) * 24 ≤ 70368744177664 ∧ 0 ≤ 70368744177664) ∧ (0 + 0 * 2 ≤ List.length ([] : List Value) ∧ (0 + 0 * 2 ≤ List.length ((outC []) : List Value) ∧ (R (IEnd.ret (Value.slice (some ⟨1, 0, some 5⟩) 0 0)) [.cells (outC []) r, .cells [] true]))))) (by kernel_rfl) ?_
  refine ⟨⟨by omega, by omega⟩, by simp, by simp, ?_⟩
  rw [hR]
  exact ⟨_, [1], [.cells [] true], rfl, rfl, .of [.cells [] true] rfl (by decide) rfl ⟨⟨.inl rfl, fun _ => rfl⟩, trivial⟩, 1, 5, rfl, .inr rfl, rfl, by decide, rfl⟩
theorem clone_1 (r : Bool) : ICalls Pr 70 [.slice (some ⟨0, 0, some 5⟩) 0 0] [.cells (outC []) r] (NewsQ [.cells (outC []) r] (CloneR [])) := by
  obtain ⟨R, hR⟩ : ∃ R, R = NewsQ [.cells (outC []) r] (CloneR []) := ⟨_, rfl⟩
  rw [← hR]
  refine icalls_sxu (hs := []) 40 mixed sc0_ok (by kernel_rfl) (by kernel_rfl) ?_
  refine Eq.mp (α := (((0) * 24 ≤ 70368744177664 ∧ 0 ≤ 70368744177664) ∧ (0 + 0 * 2 ≤ List.length ([] : List Value) ∧ (0 + 0 * 2 ≤ List.length ((outC []) : List Value) ∧ (R (IEnd.ret (Value.slice (some ⟨1, 0, some 5⟩) 0 0)) [.cells (outC []) r, .cells [] true]))))) (by kernel_rfl) ?_
  refine ⟨⟨by omega, by omega⟩, by simp, by simp, ?_⟩
  rw [hR]
  exact ⟨_, [1], [.cells [] true], rfl, rfl, .of [.cells [] true] rfl (by decide) rfl ⟨⟨.inl rfl, fun _ => rfl⟩, trivial⟩, 1, 5, rfl, .inr rfl, rfl, by decide, rfl⟩

/-- A slice that is empty: it is nil, or it has room, or its capacity is known. -/
theorem icalls_empty {P : Program} {f : FuncId} {id off k : Nat} {H : IHeap} {R : IEnd → IHeap → Prop} (h1 : ICalls P f [.slice none 0 0] H R) (h2 : ICalls P f [.slice (some ⟨id, off, some (2 * k)⟩) 0 1] H R) (h3 : ICalls P f [.slice (some ⟨id, off, some (2 * k + 1)⟩) 0 0] H R) :
    ICalls P f [.slice (some ⟨id, off, some (2 * k)⟩) 0 0] H R := by
  refine ⟨h1.1, fun β w args' S ha => ?_⟩
  obtain ⟨v', hl, hv⟩ : ∃ v', args'.toList = [v'] ∧ VRel β.loc (.slice (some ⟨id, off, some (2 * k)⟩) 0 0) v' := by
    generalize args'.toList = l at ha
    cases ha with
    | cons h t => cases t; exact ⟨_, rfl, h⟩
  rcases hv.inv_slice with ⟨h', _⟩ | ⟨_, _, _, h', _, _, rfl⟩ | ⟨id', off', q', l, o', c, h', hl', rfl, hn, hm, hx, ho, hb⟩
  · cases h'
  · exact h1.2 β w args' S (by rw [hl]; exact .cons .sliceNil .nil)
  · injection h' with h'
    injection h' with e1 e2 e3
    injection e3 with e3
    subst e1
    subst e2
    subst e3
    by_cases hc : c = 0
    · exact h3.2 β w args' S (by rw [hl]; exact .cons (.slice hl' (Nat.le_refl _) (by omega) (fun _ => hc) ho (fun hr => by have := hb hr; rw [show 2 * k / 2 = k by omega] at this; rw [show (2 * k + 1) / 2 = k by omega]; exact this)) .nil)
    · exact h2.2 β w args' S (by rw [hl]; exact .cons (.slice hl' (by omega) (by omega) (fun h => by omega) ho hb) .nil)

theorem clone_nil (H : IHeap) : ICalls Pr 70 [.slice none 0 0] H (fun r H' => r = .ret (.slice none 0 0) ∧ H' = H) := by
  refine icalls_sxu (hs := []) 40 mixed sc0_ok (by kernel_rfl) (by kernel_rfl) ?_
  exact Eq.mp (α := IEnd.ret (.slice none 0 0) = IEnd.ret (.slice none 0 0) ∧ H = H) (by kernel_rfl) ⟨rfl, rfl⟩

theorem lessNil (id off q : Nat) (hq : q % 2 = 0 := by rfl) : Less (.slice none 0 0) (.slice (some ⟨id, off, some q⟩) 0 0) := by
  intro L v' h
  cases h
  exact .sliceE hq

theorem clone_at {e : SE} (w : Wf e) (hn : e.outs.length ≤ 1000) {i : Nat} {r : Bool} {H : IHeap} (hh : e.oz = false → H[i]? = some (.cells (outC e.outs) r)) :
    ICalls Pr 70 [.slice (adr e.oz i) e.outs.length e.outs.length] H (fun e' H' => e' = .ret (.slice (adr e.oz H.length) e.outs.length e.outs.length) ∧ H' = H ++ [.cells (outC e.outs) true]) := by
  cases hz : e.oz with
  | true =>
    have h0 := w.oz hz
    rw [h0]
    exact ((clone_nil _).mono fun r H' h => h).junk [.cells (outC []) true]
  | false =>
    have lift : ∀ {n m q0 : Nat} {l : List (ByteArray × Bool)}, l = e.outs → ICalls Pr 70 [.slice (some ⟨0, 0, some q0⟩) n m] [.cells (outC l) r] (NewsQ [.cells (outC l) r] (CloneR l)) →
        ICalls Pr 70 [.slice (some ⟨i, 0, some q0⟩) n m] H (fun e' H' => e' = .ret (.slice (some ⟨H.length, 0, some 4⟩) l.length l.length) ∧ H' = H ++ [.cells (outC l) true]) := by
      intro n m q0 l hle h
      subst hle
      have h1 := h.news (H := H) [i] rfl (by simp) rfl ?_
      · refine h1.weak fun e' H' hr => ?_
        obtain ⟨v, ks, objs, ⟨k, q, rfl, hq, rfl, hk, rfl⟩, rfl, rfl⟩ := hr
        have e1 : sigR [i] [IObj.cells (outC e.outs) r].length H.length [k] k = H.length := by
          have hb : Nat.blt k 1 = false := by cases hb : Nat.blt k 1 with | false => rfl | true => simp [Nat.blt_eq] at hb; omega
          show (bif Nat.blt k 1 then _ else H.length + posN k [k]) = _
          rw [hb]
          simp [posN]
        have e3 : List.map (renO (sigR [i] [IObj.cells (outC e.outs) r].length H.length [k])) [.cells (outC e.outs) true] = [.cells (outC e.outs) true] := by
          show [renO _ (.cells (outC e.outs) true)] = _
          rw [renO_plain (o := .cells (outC e.outs) true) _ (ground_outC e.outs)]
        refine ⟨_, .slice (some ⟨H.length, 0, some 4⟩) e.outs.length e.outs.length, rfl, ?_, rfl, by rw [e3]⟩
        show Less (.slice (some ⟨sigR _ _ _ _ k, 0, some q⟩) _ _) _
        rw [e1]
        rcases hq with rfl | rfl
        · exact Less.refl _
        · exact Less.odd _ _ 2 _
      · intro k o hk
        match k, hk with
        | 0, hk => cases hk; exact ⟨_, hh hz, .inl ⟨ground_outC _, rfl⟩⟩
    match hl : e.outs with
    | x :: l =>
      have h2 := lift hl.symm (clone_c x l r (by rw [← hl]; exact hn))
      exact h2
    | [] =>
      refine icalls_empty (k := 2) ?_ (lift hl.symm (clone_0 r)) (lift hl.symm (clone_1 r))
      refine (((clone_nil _).mono fun r H' h => h).junk [.cells (outC []) true]).weak fun e' H' hr => ?_
      exact ⟨_, _, hr.1, lessNil _ _ _, rfl, hr.2⟩

/-! ### open -/
def insF (l : List (Int × ByteArray)) : Int → Option ByteArray := l.foldl (fun f x => upd f x.1 x.2) (fun _ => none)
/-- The cells of an end that is being changed. -/
def xW (e : SE) (a1 a2 : Option Addr) (m : Nat) : List Value := endW e a1 a2 ++ [.map (some m)]

def scO (e : SE) : SCall := fun g args H K =>
  bif Nat.beq g 70 then (match args with | [v] => ∃ (i : Nat) (r : Bool), v = Value.slice (adr e.oz i) e.outs.length e.outs.length ∧ (e.oz = false → H[i]? = some (.cells (outC e.outs) r)) ∧ K (.slice (adr e.oz H.length) e.outs.length e.outs.length) (H ++ [.cells (outC e.outs) true]) | _ => False)
  else False
theorem scO_ok {e : SE} (w : Wf e) (hn : e.outs.length ≤ 1000) : SOk Pr (scO e) := by
  intro g args H K h
  unfold scO at h
  obtain ⟨hg, hk⟩ := bifF h
  have := Nat.eq_of_beq_eq_true hg
  subst this
  split at hk
  · obtain ⟨i, r, rfl, hh, hk⟩ := hk
    exact (clone_at w hn hh).mono fun r H' hr => ⟨_, hr.1, by rw [hr.2]; exact hk⟩
  · exact hk.elim

noncomputable def A42 : List Code := (sp 42).take 4
noncomputable def C42 : List Code := (sp 42).drop 5
noncomputable def L42 : Code := loopOf (sp 42) 4
theorem sp42 : Ide.spine (bodyOf Pr 42) [] = A42 ++ .block 0 (.loop L42) :: C42 := by kernel_rfl

def hO (e : SE) (z : Bool) (r1 r2 : Bool) (es : List MapEntry) (c : Nat) : IHeap :=
  [.cells (outC e.outs) r1, .cells (inC e.ins) r2, .cells (endW e (adr e.oz 0) (adr z 1)) true, .map es c, .cells (xW e (adr e.oz 5) (adr z 1) 3) true, .cells (outC e.outs) true]
def envO (e : SE) (z : Bool) (i : Int) : Env := [(1, p2), (3, .pointer (some ⟨4, 0, none⟩)), (18, .slice (adr z 1) e.ins.length e.ins.length), (19, .int .i64 ((e.ins.length : Nat) : Int)), (20, .int .i64 i)]

theorem hO_in (e : SE) (z r1 r2 : Bool) (es : List MapEntry) (c : Nat) (hv : ∀ x ∈ es, ground x.val = true) : List.all (hO e z r1 r2 es c) (inO 6) = true := by
  have h1 := inVs_ground 6 _ (ground_outC e.outs)
  have h2 := inVs_ground 6 _ (ground_inC e.ins)
  have h3 : (es.all fun x => inV 6 x.val) = true := List.all_eq_true.2 fun x hx => inV_ground 6 _ (hv x hx)
  show (inV.goL 6 (outC e.outs) && (inV.goL 6 (inC e.ins) && (inV.goL 6 (endW e (adr e.oz 0) (adr z 1)) && ((es.all fun x => inV 6 x.val) && (inV.goL 6 (xW e (adr e.oz 5) (adr z 1) 3) && (inV.goL 6 (outC e.outs) && true)))))) = true
  rw [h1, h2, h3]
  cases e with | mk a b c d w oz iz outs ins => cases oz <;> cases z <;> rfl

theorem insF_app (pre : List (Int × ByteArray)) (x : Int × ByteArray) : insF (pre ++ [x]) = upd (insF pre) x.1 x.2 := by simp [insF, List.foldl_append]

theorem open_l (e : SE) (r1 r2 : Bool) (Qb : IExit → Env → IHeap → Prop) (hn : e.ins.length ≤ 9223372036854775807) : ∀ (post pre : List (Int × ByteArray)) (es : List MapEntry) (c : Nat), e.ins = pre ++ post → Look es (insF pre) →
    (∀ es c, Look es (insF e.ins) → Qb (.exit 0) (envO e false e.ins.length) (hO e false r1 r2 es c)) →
    LW none Pr 34 L42 Qb (envO e false (pre.length : Nat)) (hO e false r1 r2 es c) := by
  intro post
  induction post with
  | nil =>
    intro pre es c hp L hx
    refine loop_sxt (hs := [23]) (rf := true) mixed sc0_ok [1, 3, 18, 19, 20] 6 (by kernel_rfl) rfl ?_
    refine Eq.mp (α := (Ide.bcase (decide (((pre.length : Nat) : Int) < ((e.ins.length : Nat) : Int)))
 (0 ≤ ((pre.length : Nat) : Int) ∧ ((pre.length : Nat) : Int) < ((e.ins.length : Nat) : Int) ∧ (∃ n1 : Int, (inC e.ins)[(0 + Int.toNat ((pre.length : Nat) : Int) * 2)]? = some (Value.int IntKind.i64 n1) ∧ (∃ s2 : ByteArray, (inC e.ins)[((0 + Int.toNat ((pre.length : Nat) : Int) * 2) + 1)]? = some (Value.string s2) ∧ (true = true ∧ ∃ (es3 : List MapEntry) (c4 : Nat), Ide.putE Pr 3 es c (Value.int IntKind.i64 n1) (Value.string s2) (fun a b => a = es3 ∧ b = c4) ∧ (true = true ∧ List.all [.cells (outC e.outs) r1, .cells (inC e.ins) r2, .cells [Value.int IntKind.i64 e.life, Value.int IntKind.i64 e.peer, Value.int IntKind.i64 e.phase, Value.int IntKind.i64 e.base, Value.slice (adr e.oz 0) e.outs.length e.outs.length, Value.int IntKind.i64 e.want, Value.slice (some ⟨1, 0, some 4⟩) e.ins.length e.ins.length] true, .map es3 c4, .cells [Value.int IntKind.i64 e.life, Value.int IntKind.i64 e.peer, Value.int IntKind.i64 e.phase, Value.int IntKind.i64 e.base, Value.slice (adr e.oz 5) e.outs.length e.outs.length, Value.int IntKind.i64 e.want, Value.slice (some ⟨1, 0, some 4⟩) e.ins.length e.ins.length, Value.map (some 3)] true, .cells (outC e.outs) true] (Ide.inO 6) = true ∧ LW none Pr 34 L42 Qb [(1, Value.pointer (some ⟨2, 0, none⟩)), (3, Value.pointer (some ⟨4, 0, none⟩)), (18, Value.slice (some ⟨1, 0, some 4⟩) e.ins.length e.ins.length), (19, Value.int IntKind.i64 ((e.ins.length : Nat) : Int)), (20, Value.int IntKind.i64 (IntKind.wrap .i64 (((pre.length : Nat) : Int) + 1)))] [.cells (outC e.outs) r1, .cells (inC e.ins) r2, .cells [Value.int IntKind.i64 e.life, Value.int IntKind.i64 e.peer, Value.int IntKind.i64 e.phase, Value.int IntKind.i64 e.base, Value.slice (adr e.oz 0) e.outs.length e.outs.length, Value.int IntKind.i64 e.want, Value.slice (some ⟨1, 0, some 4⟩) e.ins.length e.ins.length] true, .map es3 c4, .cells [Value.int IntKind.i64 e.life, Value.int IntKind.i64 e.peer, Value.int IntKind.i64 e.phase, Value.int IntKind.i64 e.base, Value.slice (adr e.oz 5) e.outs.length e.outs.length, Value.int IntKind.i64 e.want, Value.slice (some ⟨1, 0, some 4⟩) e.ins.length e.ins.length, Value.map (some 3)] true, .cells (outC e.outs) true])))))
 (true = true ∧ List.all [.cells (outC e.outs) r1, .cells (inC e.ins) r2, .cells [Value.int IntKind.i64 e.life, Value.int IntKind.i64 e.peer, Value.int IntKind.i64 e.phase, Value.int IntKind.i64 e.base, Value.slice (adr e.oz 0) e.outs.length e.outs.length, Value.int IntKind.i64 e.want, Value.slice (some ⟨1, 0, some 4⟩) e.ins.length e.ins.length] true, .map es c, .cells [Value.int IntKind.i64 e.life, Value.int IntKind.i64 e.peer, Value.int IntKind.i64 e.phase, Value.int IntKind.i64 e.base, Value.slice (adr e.oz 5) e.outs.length e.outs.length, Value.int IntKind.i64 e.want, Value.slice (some ⟨1, 0, some 4⟩) e.ins.length e.ins.length, Value.map (some 3)] true, .cells (outC e.outs) true] (Ide.inO 6) = true ∧ Qb (.exit 0) [(1, Value.pointer (some ⟨2, 0, none⟩)), (3, Value.pointer (some ⟨4, 0, none⟩)), (18, Value.slice (some ⟨1, 0, some 4⟩) e.ins.length e.ins.length), (19, Value.int IntKind.i64 ((e.ins.length : Nat) : Int)), (20, Value.int IntKind.i64 ((pre.length : Nat) : Int))] [.cells (outC e.outs) r1, .cells (inC e.ins) r2, .cells [Value.int IntKind.i64 e.life, Value.int IntKind.i64 e.peer, Value.int IntKind.i64 e.phase, Value.int IntKind.i64 e.base, Value.slice (adr e.oz 0) e.outs.length e.outs.length, Value.int IntKind.i64 e.want, Value.slice (some ⟨1, 0, some 4⟩) e.ins.length e.ins.length] true, .map es c, .cells [Value.int IntKind.i64 e.life, Value.int IntKind.i64 e.peer, Value.int IntKind.i64 e.phase, Value.int IntKind.i64 e.base, Value.slice (adr e.oz 5) e.outs.length e.outs.length, Value.int IntKind.i64 e.want, Value.slice (some ⟨1, 0, some 4⟩) e.ins.length e.ins.length, Value.map (some 3)] true, .cells (outC e.outs) true]))) (by kernel_rfl) ?_
    have hl : pre.length = e.ins.length := by rw [hp]; simp
    refine bcI (fun h => ?_) (fun h => ?_)
    · exfalso; simp at h; omega
    · refine ⟨rfl, hO_in e false r1 r2 es c L.vals, ?_⟩
      rw [hl]
      exact hx es c (by rw [hp, List.append_nil]; exact L)
  | cons x post ih =>
    intro pre es c hp L hx
    refine loop_sxt (hs := [23]) (rf := true) mixed sc0_ok [1, 3, 18, 19, 20] 6 (by kernel_rfl) rfl ?_
    refine Eq.mp (α := (Ide.bcase (decide (((pre.length : Nat) : Int) < ((e.ins.length : Nat) : Int)))
 (0 ≤ ((pre.length : Nat) : Int) ∧ ((pre.length : Nat) : Int) < ((e.ins.length : Nat) : Int) ∧ (∃ n1 : Int, (inC e.ins)[(0 + Int.toNat ((pre.length : Nat) : Int) * 2)]? = some (Value.int IntKind.i64 n1) ∧ (∃ s2 : ByteArray, (inC e.ins)[((0 + Int.toNat ((pre.length : Nat) : Int) * 2) + 1)]? = some (Value.string s2) ∧ (true = true ∧ ∃ (es3 : List MapEntry) (c4 : Nat), Ide.putE Pr 3 es c (Value.int IntKind.i64 n1) (Value.string s2) (fun a b => a = es3 ∧ b = c4) ∧ (true = true ∧ List.all [.cells (outC e.outs) r1, .cells (inC e.ins) r2, .cells [Value.int IntKind.i64 e.life, Value.int IntKind.i64 e.peer, Value.int IntKind.i64 e.phase, Value.int IntKind.i64 e.base, Value.slice (adr e.oz 0) e.outs.length e.outs.length, Value.int IntKind.i64 e.want, Value.slice (some ⟨1, 0, some 4⟩) e.ins.length e.ins.length] true, .map es3 c4, .cells [Value.int IntKind.i64 e.life, Value.int IntKind.i64 e.peer, Value.int IntKind.i64 e.phase, Value.int IntKind.i64 e.base, Value.slice (adr e.oz 5) e.outs.length e.outs.length, Value.int IntKind.i64 e.want, Value.slice (some ⟨1, 0, some 4⟩) e.ins.length e.ins.length, Value.map (some 3)] true, .cells (outC e.outs) true] (Ide.inO 6) = true ∧ LW none Pr 34 L42 Qb [(1, Value.pointer (some ⟨2, 0, none⟩)), (3, Value.pointer (some ⟨4, 0, none⟩)), (18, Value.slice (some ⟨1, 0, some 4⟩) e.ins.length e.ins.length), (19, Value.int IntKind.i64 ((e.ins.length : Nat) : Int)), (20, Value.int IntKind.i64 (IntKind.wrap .i64 (((pre.length : Nat) : Int) + 1)))] [.cells (outC e.outs) r1, .cells (inC e.ins) r2, .cells [Value.int IntKind.i64 e.life, Value.int IntKind.i64 e.peer, Value.int IntKind.i64 e.phase, Value.int IntKind.i64 e.base, Value.slice (adr e.oz 0) e.outs.length e.outs.length, Value.int IntKind.i64 e.want, Value.slice (some ⟨1, 0, some 4⟩) e.ins.length e.ins.length] true, .map es3 c4, .cells [Value.int IntKind.i64 e.life, Value.int IntKind.i64 e.peer, Value.int IntKind.i64 e.phase, Value.int IntKind.i64 e.base, Value.slice (adr e.oz 5) e.outs.length e.outs.length, Value.int IntKind.i64 e.want, Value.slice (some ⟨1, 0, some 4⟩) e.ins.length e.ins.length, Value.map (some 3)] true, .cells (outC e.outs) true])))))
 (true = true ∧ List.all [.cells (outC e.outs) r1, .cells (inC e.ins) r2, .cells [Value.int IntKind.i64 e.life, Value.int IntKind.i64 e.peer, Value.int IntKind.i64 e.phase, Value.int IntKind.i64 e.base, Value.slice (adr e.oz 0) e.outs.length e.outs.length, Value.int IntKind.i64 e.want, Value.slice (some ⟨1, 0, some 4⟩) e.ins.length e.ins.length] true, .map es c, .cells [Value.int IntKind.i64 e.life, Value.int IntKind.i64 e.peer, Value.int IntKind.i64 e.phase, Value.int IntKind.i64 e.base, Value.slice (adr e.oz 5) e.outs.length e.outs.length, Value.int IntKind.i64 e.want, Value.slice (some ⟨1, 0, some 4⟩) e.ins.length e.ins.length, Value.map (some 3)] true, .cells (outC e.outs) true] (Ide.inO 6) = true ∧ Qb (.exit 0) [(1, Value.pointer (some ⟨2, 0, none⟩)), (3, Value.pointer (some ⟨4, 0, none⟩)), (18, Value.slice (some ⟨1, 0, some 4⟩) e.ins.length e.ins.length), (19, Value.int IntKind.i64 ((e.ins.length : Nat) : Int)), (20, Value.int IntKind.i64 ((pre.length : Nat) : Int))] [.cells (outC e.outs) r1, .cells (inC e.ins) r2, .cells [Value.int IntKind.i64 e.life, Value.int IntKind.i64 e.peer, Value.int IntKind.i64 e.phase, Value.int IntKind.i64 e.base, Value.slice (adr e.oz 0) e.outs.length e.outs.length, Value.int IntKind.i64 e.want, Value.slice (some ⟨1, 0, some 4⟩) e.ins.length e.ins.length] true, .map es c, .cells [Value.int IntKind.i64 e.life, Value.int IntKind.i64 e.peer, Value.int IntKind.i64 e.phase, Value.int IntKind.i64 e.base, Value.slice (adr e.oz 5) e.outs.length e.outs.length, Value.int IntKind.i64 e.want, Value.slice (some ⟨1, 0, some 4⟩) e.ins.length e.ins.length, Value.map (some 3)] true, .cells (outC e.outs) true]))) (by kernel_rfl) ?_
    have hl : e.ins.length = pre.length + post.length + 1 := by rw [hp]; simp; omega
    refine bcI (fun h => ?_) (fun h => ?_)
    · obtain ⟨es', c', h1, h2⟩ := look_put L c x.1 x.2
      have hi : 0 + Int.toNat ((pre.length : Nat) : Int) * 2 = 2 * pre.length := by simp; omega
      refine ⟨by omega, by omega, x.1, ?_, x.2, ?_, rfl, es', c', h1, rfl, hO_in e false r1 r2 es' c' h2.vals, ?_⟩
      · rw [hp, hi]; exact (inC_get pre x post).1
      · rw [hp, hi]; exact (inC_get pre x post).2
      · rw [wrap_i64 (by omega) (by omega), show ((pre.length : Nat) : Int) + 1 = (((pre ++ [x]).length : Nat) : Int) by simp]
        exact ih (pre ++ [x]) es' c' (by rw [hp]; simp) (by rw [insF_app]; exact h2) hx
    · exfalso; simp at h; omega

theorem open_lz (e : SE) (r1 r2 : Bool) (Qb : IExit → Env → IHeap → Prop) (ho : e.ins = []) (es : List MapEntry) (c : Nat) (L : Look es (insF e.ins))
    (hx : Qb (.exit 0) (envO e true 0) (hO e true r1 r2 es c)) : LW none Pr 34 L42 Qb (envO e true 0) (hO e true r1 r2 es c) := by
  refine loop_sxt (hs := [23]) (rf := true) mixed sc0_ok [1, 3, 18, 19, 20] 6 (by kernel_rfl) rfl ?_
  have hin := hO_in e true r1 r2 es c L.vals
  obtain ⟨life, peer, phase, base, want, oz, iz, outs, ins⟩ := e
  subst ho
  exact Eq.mp (α := true = true ∧ List.all (hO (SE.mk life peer phase base want oz iz outs []) true r1 r2 es c) (inO 6) = true ∧ Qb (.exit 0) (envO (SE.mk life peer phase base want oz iz outs []) true 0) (hO (SE.mk life peer phase base want oz iz outs []) true r1 r2 es c)) (by kernel_rfl) ⟨rfl, hin, hx⟩

def OpenR (e : SE) (v : Value) (ks : List Nat) (objs : IHeap) : Prop :=
  ∃ es c, Look es (insF e.ins) ∧ v = .pointer (some ⟨4, 0, none⟩) ∧ ks = [4, 5, 3] ∧ objs = [.cells (xW e (adr e.oz 5) (adr e.iz 1) 3) true, .cells (outC e.outs) true, .map es c]

theorem open_c {e : SE} (w : Wf e) (hn : e.outs.length ≤ 1000) (r1 r2 : Bool) : ICalls Pr 42 [endAt e 0 1] (endR e r1 r2) (NewsQ (endR e r1 r2) (OpenR e)) := by
  obtain ⟨R, hR⟩ : ∃ R, R = NewsQ (endR e r1 r2) (OpenR e) := ⟨_, rfl⟩
  rw [← hR]
  refine icalls_sx (by kernel_rfl) ?_
  rw [sp42]
  refine iwl_segk (hs := []) (rf := true) mixed (scO_ok w hn) [1, 3, 18, 19, 20] A42 _ _ (by kernel_rfl) ?_
  refine Eq.mp (α := (∃ (i : Nat) (r : Bool), Value.slice (adr e.oz 0) e.outs.length e.outs.length = Value.slice (adr e.oz i) e.outs.length e.outs.length ∧ (e.oz = false → ([.cells (outC e.outs) r1, .cells (inC e.ins) r2, .cells [Value.int IntKind.i64 e.life, Value.int IntKind.i64 e.peer, Value.int IntKind.i64 e.phase, Value.int IntKind.i64 e.base, Value.slice (adr e.oz 0) e.outs.length e.outs.length, Value.int IntKind.i64 e.want, Value.slice (adr e.iz 1) e.ins.length e.ins.length] true, .map ([]) 0, .cells [Value.int IntKind.i64 e.life, Value.int IntKind.i64 e.peer, Value.int IntKind.i64 e.phase, Value.int IntKind.i64 e.base, Value.slice (adr e.oz 0) e.outs.length e.outs.length, Value.int IntKind.i64 e.want, Value.slice (adr e.iz 1) e.ins.length e.ins.length, Value.map (some 3)] true] : IHeap)[i]? = some (.cells (outC e.outs) r)) ∧ (IWL none Pr 34 (.block 0 (.loop L42) :: C42) (bodyS Pr (ressOf Pr 42) R) [(1, Value.pointer (some ⟨2, 0, none⟩)), (3, Value.pointer (some ⟨4, 0, none⟩)), (18, Value.slice (adr e.iz 1) e.ins.length e.ins.length), (19, Value.int IntKind.i64 ((e.ins.length : Nat) : Int)), (20, Value.int IntKind.i64 0)] [.cells (outC e.outs) r1, .cells (inC e.ins) r2, .cells [Value.int IntKind.i64 e.life, Value.int IntKind.i64 e.peer, Value.int IntKind.i64 e.phase, Value.int IntKind.i64 e.base, Value.slice (adr e.oz 0) e.outs.length e.outs.length, Value.int IntKind.i64 e.want, Value.slice (adr e.iz 1) e.ins.length e.ins.length] true, .map ([]) 0, .cells [Value.int IntKind.i64 e.life, Value.int IntKind.i64 e.peer, Value.int IntKind.i64 e.phase, Value.int IntKind.i64 e.base, Value.slice (adr e.oz 5) e.outs.length e.outs.length, Value.int IntKind.i64 e.want, Value.slice (adr e.iz 1) e.ins.length e.ins.length, Value.map (some 3)] true, .cells (outC e.outs) true]))) (by kernel_rfl) ?_
  refine ⟨0, r1, rfl, fun _ => rfl, ?_⟩
  refine iwl_loop ?_
  have fin : ∀ (k : Int) (es : List MapEntry) (c : Nat), Look es (insF e.ins) → IWL none Pr 34 C42 (bodyS Pr (ressOf Pr 42) R) (envO e e.iz k) (hO e e.iz r1 r2 es c) := by
    intro k es c L
    refine iwl_last (hs := []) (rf := true) mixed sc0_ok C42 (by kernel_rfl) ?_
    refine Eq.mp (α := R (IEnd.ret (.pointer (some ⟨4, 0, none⟩))) (hO e e.iz r1 r2 es c)) (by kernel_rfl) ?_
    rw [hR]
    refine ⟨_, [4, 5, 3], [.cells (xW e (adr e.oz 5) (adr e.iz 1) 3) true, .cells (outC e.outs) true, .map es c], rfl, rfl, .of [.cells (endW e (adr e.oz 0) (adr e.iz 1)) true, .map es c, .cells (xW e (adr e.oz 5) (adr e.iz 1) 3) true, .cells (outC e.outs) true] rfl (by decide) rfl ⟨⟨.inr ?_, fun _ => rfl⟩, ⟨.inl (ground_outC _), fun _ => rfl⟩, ⟨.inl (look_plain L c), fun _ => rfl⟩, trivial⟩, es, c, L, rfl, rfl, rfl⟩
    show idV.goL _ (xW e (adr e.oz 5) (adr e.iz 1) 3) = true
    cases e with | mk a b c d w oz iz outs ins => cases oz <;> cases iz <;> rfl
  cases hz : e.iz with
  | true =>
    have ho := w.iz hz
    rw [hz] at fin
    exact open_lz e r1 r2 _ ho [] 0 (by rw [ho]; exact look_nil) (fin 0 [] 0 (by rw [ho]; exact look_nil))
  | false =>
    rw [hz] at fin
    exact open_l e r1 r2 _ w.inn e.ins [] [] 0 rfl look_nil (fun es c L => fin _ es c L)

theorem open_at {e : SE} (w : Wf e) (hn : e.outs.length ≤ 1000) {i j : Nat} {r1 r2 : Bool} {H : IHeap} (h1 : H[i]? = some (.cells (outC e.outs) r1)) (h2 : H[j]? = some (.cells (inC e.ins) r2)) (hij : i ≠ j) :
    ICalls Pr 42 [endAt e i j] H (fun r H' => ∃ es c, Look es (insF e.ins) ∧ r = .ret (.pointer (some ⟨H.length, 0, none⟩)) ∧ H' = H ++ [.cells (xW e (adr e.oz (H.length + 1)) (adr e.iz j) (H.length + 2)) true, .cells (outC e.outs) true, .map es c]) := by
  have h3 := (open_c w hn r1 r2).news (H := H) [i, j] rfl (by simp [hij]) ?_ ?_
  · have e1 : renV.goL (rho [i, j]) [endAt e 0 1] = [endAt e i j] := by
      cases e with | mk a b c d w oz iz outs ins => cases oz <;> cases iz <;> rfl
    rw [e1] at h3
    refine h3.mono fun r H' hr => ?_
    obtain ⟨v, ks, objs, ⟨es, c, L, rfl, rfl, rfl⟩, rfl, rfl⟩ := hr
    refine ⟨es, c, L, rfl, ?_⟩
    congr 1
    show [renO _ (.cells (xW e (adr e.oz 5) (adr e.iz 1) 3) true), renO _ (.cells (outC e.outs) true), renO _ (.map es c)] = _
    rw [renO_plain (o := .cells (outC e.outs) true) _ (ground_outC e.outs), renO_plain (o := .map es c) _ (look_plain L c)]
    congr 1
    cases e with | mk a b c d w oz iz outs ins => cases oz <;> cases iz <;> rfl
  · cases e with | mk a b c d w oz iz outs ins => cases oz <;> cases iz <;> rfl
  · intro k o hk
    match k, hk with
    | 0, hk => cases hk; exact ⟨_, h1, .inl ⟨ground_outC _, rfl⟩⟩
    | 1, hk => cases hk; exact ⟨_, h2, .inl ⟨ground_inC _, rfl⟩⟩

end Go.Proofs.Ytoikiogaiikheaa.Sess

/- Rounds that make plain memory that stays. -/
set_option linter.unusedVariables false
set_option linter.unusedSimpArgs false
namespace Ide
open Go Go.RowKit
variable [Pol]

def renEnv (σ : Nat → Nat) : Env → Env
  | [] => []
  | (t, v) :: e => (t, renV σ v) :: renEnv σ e
def envId (p : Nat → Bool) : Env → Bool
  | [] => true
  | (_, v) :: e => idV p v && envId p e

theorem lk_renEnv (σ : Nat → Nat) : ∀ (e : Env) (t : Nat), lk (renEnv σ e) t = renV σ (lk e t)
  | [], t => rfl
  | (u, v) :: e, t => by
    have := lk_renEnv σ e t
    simp only [renEnv, lk]
    cases Nat.beq u t with
    | true => rfl
    | false => exact this
theorem lk_envId {p : Nat → Bool} : ∀ {e : Env}, envId p e = true → ∀ t, idV p (lk e t) = true
  | [], _, t => rfl
  | (u, v) :: e, h, t => by
    simp only [envId, Bool.and_eq_true] at h
    have := lk_envId h.2 t
    simp only [lk]
    cases Nat.beq u t with
    | true => exact h.1
    | false => exact this

def NewP (H : IHeap) : List Nat → IHeap → Prop
  | k :: ks, o :: objs => (plainO o = true ∧ H[k]? = some o) ∧ NewP H ks objs
  | [], [] => True
  | _, _ => False
theorem NewP.len {H : IHeap} : ∀ {ks : List Nat} {objs : IHeap}, NewP H ks objs → ks.length = objs.length
  | _ :: _, _ :: _, h => congrArg (· + 1) h.2.len
  | [], [], _ => rfl
  | [], _ :: _, h => h.elim
  | _ :: _, [], h => h.elim
theorem NewP.get {H : IHeap} : ∀ {ks : List Nat} {objs : IHeap}, NewP H ks objs → ∀ (j k : Nat) (o : IObj), ks[j]? = some k → objs[j]? = some o → plainO o = true ∧ H[k]? = some o
  | _ :: _, _ :: _, h, 0, k, o, hk, ho => by simp at hk ho; subst hk; subst ho; exact h.1
  | _ :: _, _ :: _, h, j + 1, k, o, hk, ho => h.2.get j k o (by simpa using hk) (by simpa using ho)
  | [], [], _, j, k, o, hk, _ => by simp at hk
  | [], _ :: _, h, _, _, _, _, _ => h.elim
  | _ :: _, [], h, _, _, _, _, _ => h.elim

theorem renO_id {o : IObj} {p : Nat → Bool} (h : idO p o = true) : renO id o = o := by
  match o, h with
  | .cells cs rw, _ => simp only [renO]; rw [ren_ids]
  | .map es c, _ =>
    simp only [renO]
    congr 1
    unfold renEs
    have : ∀ e ∈ es, (fun e : MapEntry => { e with val := renV id e.val }) e = e := fun e he => by
      show { e with val := renV id e.val } = e
      rw [ren_id]
    exact (List.map_congr_left this).trans (by simp)

theorem Recast.plain {m : Nat} {ks : List Nat} {env env2 : Env} {H objs : IHeap} (base tail : IHeap) (hH : H = base ++ tail) (hb : base.length = m)
    (hbo : ∀ o ∈ base, plainO o = true ∨ idO (fun i => Nat.blt i m) o = true) (he : env2 = renEnv (sig m ks) env) (hi : envId (kept m ks) env = true)
    (hnd : ks.Nodup) (hge : ks.all (Nat.ble m) = true) (hn : NewP H ks objs) : Recast m ks env H env2 (base ++ objs) where
  len := by rw [List.length_append, hb, hn.len]
  nodup := hnd
  ge := fun k hk => Nat.le_of_ble_eq_true (List.all_eq_true.1 hge k hk)
  env := fun t => by
    subst he
    exact .inr ⟨lk_renEnv _ env t, lk_envId hi t⟩
  low := fun j o hj ho => by
    rw [List.getElem?_append_left (by omega)] at ho
    refine ⟨o, by rw [hH, List.getElem?_append_left (by omega)]; exact ho, ?_⟩
    rcases hbo o (List.mem_of_getElem? ho) with h | h
    · exact .plain h
    · refine .ren (idO_mono (fun k hk => by unfold kept; rw [hk]; rfl) h) ?_
      rw [← renO_congr (p := fun i => Nat.blt i m) (σ := id) (fun k hk => ?_) h, renO_id h]
      unfold sig
      rw [hk]
      rfl
  high := fun j k o hk ho => by
    rw [List.getElem?_append_right (by omega), ← hb, Nat.add_sub_cancel_left] at ho
    obtain ⟨h1, h2⟩ := hn.get j k o hk ho
    exact ⟨o, h2, .plain h1⟩

/-- The leaf of a round of loop_sxr. -/
theorem recast_to {m : Nat} {env env2 : Env} {H H2 : IHeap} {G : Env → IHeap → Prop} (ks : List Nat) (objs base tail : IHeap) (hH : H = base ++ tail) (hb : base.length = m)
    (hbo : ∀ o ∈ base, plainO o = true ∨ idO (fun i => Nat.blt i m) o = true) (he : env2 = renEnv (sig m ks) env) (hi : envId (kept m ks) env = true)
    (hnd : ks.Nodup) (hge : ks.all (Nat.ble m) = true) (hn : NewP H ks objs) (h2 : H2 = base ++ objs) (h : G env2 H2) : ∃ ks env2 H2, Recast m ks env H env2 H2 ∧ G env2 H2 :=
  ⟨ks, env2, H2, by rw [h2]; exact Recast.plain base tail hH hb hbo he hi hnd hge hn, h⟩

end Ide
