/- The packets of some messages. -/
import Derived.Test.YtoikiogaiikheaaSndAV
set_option linter.unusedSectionVars false
set_option linter.unusedVariables false
set_option linter.unusedSimpArgs false
set_option maxRecDepth 10000
namespace Go.Proofs.Ytoikiogaiikheaa.Sess
open Go Go.RowKit Ide Go.Proofs

def intsC (l : List Int) : List Value := l.map fun n => .int .i64 n
theorem intsC_len (l : List Int) : (intsC l).length = l.length := List.length_map _
theorem intsC_all (l : List Int) : List.take (l.length * 1) (List.drop 0 (intsC l)) = intsC l := by rw [List.drop_zero, Nat.mul_one, ← intsC_len, List.take_length]
theorem ground_intsC : ∀ l : List Int, ground.groundL (intsC l) = true
  | [] => rfl
  | x :: l => by show (true && ground.groundL (intsC l)) = true; rw [ground_intsC l]; rfl
def intsV (l : List Int) (k : Nat) : Value := .slice (some ⟨k, 0, some 2⟩) l.length l.length
def dataV (k : Nat) : Value := .func (.func 48) ⟨[.pointer (some ⟨k, 0, none⟩)]⟩ ⟨[]⟩
def eachP (f : Int → Option ByteArray) (e : SE) (ns : List Int) : List Pkt := ns.map fun n => dataX f e n (textAt e.outs n)

noncomputable def A47 : List Code := (sp 47).take 3
noncomputable def C47 : List Code := (sp 47).drop 4
noncomputable def L47 : Code := loopOf (sp 47) 3
theorem sp47 : Ide.spine (bodyOf Pr 47) [] = A47 ++ .block 0 (.loop L47) :: C47 := by kernel_rfl

section
variable {e : SE} {f : Int → Option ByteArray} {k i j m : Nat} {r : Bool} {H : IHeap}

def scEach (e : SE) (f : Int → Option ByteArray) (k i j m : Nat) (r : Bool) : SCall :=
  scC 48 (cI (.pointer (some ⟨k + 64, 0, none⟩)) (fun n H => (0 ≤ n ∧ n < ((e.outs.length : Nat) : Int)) ∧ XAt e f (k + 64) (i + 64) (j + 64) (m + 64) r H) (fun n => pktV (dataX f e n (textAt e.outs n)))) sc0
theorem scEach_ok : SOk Pr (scEach e f k i j m r) := scC_ok (cI_ok fun n H h => xdata_ok h.1 h.2) sc0_ok

theorem each_l {rt : Root} {B : IHeap} {a : Nat} {ns : List Int} {ra : Bool} (hB : B = H.map (mvO shU)) (hm : rt.m = 64 + H.length) (ga : B[a]? = some (.cells (intsC ns) ra)) (gX : ∀ l, XAt e f (k + 64) (i + 64) (j + 64) (m + 64) r (pad 64 l B))
    (hn : ∀ n ∈ ns, 0 ≤ n ∧ n < e.outs.length) (hlen : ns.length ≤ 1000) (Qb : IExit → Env → IHeap → Prop) : ∀ (post pre : List Int), ns = pre ++ post →
    (Qb (.exit 0) [(1, dataV (k + 64)), (5, pksV (eachP f e ns) 0), (8, intsV ns (a + 64)), (9, .int .i64 ((ns.length : Nat) : Int)), (10, .int .i64 ((ns.length : Nat) : Int))] (pad 64 [.cells (pksC (eachP f e ns)) true] B)) →
    LWQ rt none Pr 22 L47 Qb [(1, dataV (k + 64)), (5, pksV (eachP f e pre) 0), (8, intsV ns (a + 64)), (9, .int .i64 ((ns.length : Nat) : Int)), (10, .int .i64 ((pre.length : Nat) : Int))] (pad 64 [.cells (pksC (eachP f e pre)) true] B) := by
  intro post
  induction post with
  | nil =>
    intro pre hp hx
    refine lwq_round (hs := []) (sc := scEach e f k i j m r) (rf := true) mixed scEach_ok 40 [1, 5, 8, 9, 10] (by kernel_rfl) ?_
    refine Eq.mp (α := (Ide.bcase (decide (((pre.length : Nat) : Int) < ((ns.length : Nat) : Int)))
 (0 ≤ ((pre.length : Nat) : Int) ∧ ((pre.length : Nat) : Int) < ((ns.length : Nat) : Int) ∧ (∃ n1 : Int, Ide.cellAt B a (0 + Int.toNat ((pre.length : Nat) : Int) * 1) = some (Value.int IntKind.i64 n1) ∧ ((Value.pointer (some ⟨(k + 64), 0, none⟩) = Value.pointer (some ⟨(k + 64), 0, none⟩) ∧ IntKind.i64 = IntKind.i64) ∧ ((0 ≤ n1 ∧ n1 < ((e.outs.length : Nat) : Int)) ∧ XAt e f (k + 64) (i + 64) (j + 64) (m + 64) r (Ide.pad 64 [.cells (pksC (eachP f e pre)) true] B)) ∧ (((((eachP f e pre).length) + 1) * 64 ≤ 70368744177664 ∧ ((eachP f e pre).length) + 1 ≤ 70368744177664) ∧ (0 + ((eachP f e pre).length) * 7 ≤ List.length ((pksC (eachP f e pre)) : List Value) ∧ (0 + 1 * 7 ≤ List.length ([Value.int IntKind.i64 ((dataX f e n1 (textAt e.outs n1)).kind), Value.int IntKind.i64 ((dataX f e n1 (textAt e.outs n1)).src), Value.int IntKind.i64 ((dataX f e n1 (textAt e.outs n1)).dst), Value.int IntKind.i64 ((dataX f e n1 (textAt e.outs n1)).num), Value.string (dataX f e n1 (textAt e.outs n1)).text, Value.int IntKind.i64 ((dataX f e n1 (textAt e.outs n1)).ack), Value.int IntKind.i64 ((dataX f e n1 (textAt e.outs n1)).held)] : List Value) ∧ ((7 = 7 ∧ true = true) ∧ ((eachP f e pre).length) < (((eachP f e pre).length) + 1) ∧ (LWQ rt none Pr 22 L47 Qb [(1, Value.func (Fn.func 48) ⟨[Value.pointer (some ⟨(k + 64), 0, none⟩)]⟩ ⟨[]⟩), (5, Value.slice (some ⟨2, 0, some 14⟩) (((eachP f e pre).length) + 1) (((eachP f e pre).length) + 1)), (8, intsV ns (a + 64)), (9, Value.int IntKind.i64 ((ns.length : Nat) : Int)), (10, Value.int IntKind.i64 (IntKind.wrap .i64 (((pre.length : Nat) : Int) + 1)))] (Ide.pad 64 [.dead, .cells [Value.int IntKind.i64 ((dataX f e n1 (textAt e.outs n1)).kind), Value.int IntKind.i64 ((dataX f e n1 (textAt e.outs n1)).src), Value.int IntKind.i64 ((dataX f e n1 (textAt e.outs n1)).dst), Value.int IntKind.i64 ((dataX f e n1 (textAt e.outs n1)).num), Value.string (dataX f e n1 (textAt e.outs n1)).text, Value.int IntKind.i64 ((dataX f e n1 (textAt e.outs n1)).ack), Value.int IntKind.i64 ((dataX f e n1 (textAt e.outs n1)).held)] true, .cells ((List.take (((eachP f e pre).length) * 7) (List.drop 0 (pksC (eachP f e pre))) : List Value) ++ [Value.int IntKind.i64 ((dataX f e n1 (textAt e.outs n1)).kind), Value.int IntKind.i64 ((dataX f e n1 (textAt e.outs n1)).src), Value.int IntKind.i64 ((dataX f e n1 (textAt e.outs n1)).dst), Value.int IntKind.i64 ((dataX f e n1 (textAt e.outs n1)).num), Value.string (dataX f e n1 (textAt e.outs n1)).text, Value.int IntKind.i64 ((dataX f e n1 (textAt e.outs n1)).ack), Value.int IntKind.i64 ((dataX f e n1 (textAt e.outs n1)).held)]) true] B)))))))))
 (Qb (.exit 0) [(1, Value.func (Fn.func 48) ⟨[Value.pointer (some ⟨(k + 64), 0, none⟩)]⟩ ⟨[]⟩), (5, pksV (eachP f e pre) 0), (8, intsV ns (a + 64)), (9, Value.int IntKind.i64 ((ns.length : Nat) : Int)), (10, Value.int IntKind.i64 ((pre.length : Nat) : Int))] (Ide.pad 64 [.cells (pksC (eachP f e pre)) true] B)))) (by kernel_rfl) ?_
    rw [List.append_nil] at hp
    subst hp
    exact bcI (fun h => by exfalso; simp at h) fun h => hx
  | cons n post ih =>
    intro pre hp hx
    refine lwq_round (hs := []) (sc := scEach e f k i j m r) (rf := true) mixed scEach_ok 40 [1, 5, 8, 9, 10] (by kernel_rfl) ?_
    refine Eq.mp (α := (Ide.bcase (decide (((pre.length : Nat) : Int) < ((ns.length : Nat) : Int)))
 (0 ≤ ((pre.length : Nat) : Int) ∧ ((pre.length : Nat) : Int) < ((ns.length : Nat) : Int) ∧ (∃ n1 : Int, Ide.cellAt B a (0 + Int.toNat ((pre.length : Nat) : Int) * 1) = some (Value.int IntKind.i64 n1) ∧ ((Value.pointer (some ⟨(k + 64), 0, none⟩) = Value.pointer (some ⟨(k + 64), 0, none⟩) ∧ IntKind.i64 = IntKind.i64) ∧ ((0 ≤ n1 ∧ n1 < ((e.outs.length : Nat) : Int)) ∧ XAt e f (k + 64) (i + 64) (j + 64) (m + 64) r (Ide.pad 64 [.cells (pksC (eachP f e pre)) true] B)) ∧ (((((eachP f e pre).length) + 1) * 64 ≤ 70368744177664 ∧ ((eachP f e pre).length) + 1 ≤ 70368744177664) ∧ (0 + ((eachP f e pre).length) * 7 ≤ List.length ((pksC (eachP f e pre)) : List Value) ∧ (0 + 1 * 7 ≤ List.length ([Value.int IntKind.i64 ((dataX f e n1 (textAt e.outs n1)).kind), Value.int IntKind.i64 ((dataX f e n1 (textAt e.outs n1)).src), Value.int IntKind.i64 ((dataX f e n1 (textAt e.outs n1)).dst), Value.int IntKind.i64 ((dataX f e n1 (textAt e.outs n1)).num), Value.string (dataX f e n1 (textAt e.outs n1)).text, Value.int IntKind.i64 ((dataX f e n1 (textAt e.outs n1)).ack), Value.int IntKind.i64 ((dataX f e n1 (textAt e.outs n1)).held)] : List Value) ∧ ((7 = 7 ∧ true = true) ∧ ((eachP f e pre).length) < (((eachP f e pre).length) + 1) ∧ (LWQ rt none Pr 22 L47 Qb [(1, Value.func (Fn.func 48) ⟨[Value.pointer (some ⟨(k + 64), 0, none⟩)]⟩ ⟨[]⟩), (5, Value.slice (some ⟨2, 0, some 14⟩) (((eachP f e pre).length) + 1) (((eachP f e pre).length) + 1)), (8, intsV ns (a + 64)), (9, Value.int IntKind.i64 ((ns.length : Nat) : Int)), (10, Value.int IntKind.i64 (IntKind.wrap .i64 (((pre.length : Nat) : Int) + 1)))] (Ide.pad 64 [.dead, .cells [Value.int IntKind.i64 ((dataX f e n1 (textAt e.outs n1)).kind), Value.int IntKind.i64 ((dataX f e n1 (textAt e.outs n1)).src), Value.int IntKind.i64 ((dataX f e n1 (textAt e.outs n1)).dst), Value.int IntKind.i64 ((dataX f e n1 (textAt e.outs n1)).num), Value.string (dataX f e n1 (textAt e.outs n1)).text, Value.int IntKind.i64 ((dataX f e n1 (textAt e.outs n1)).ack), Value.int IntKind.i64 ((dataX f e n1 (textAt e.outs n1)).held)] true, .cells ((List.take (((eachP f e pre).length) * 7) (List.drop 0 (pksC (eachP f e pre))) : List Value) ++ [Value.int IntKind.i64 ((dataX f e n1 (textAt e.outs n1)).kind), Value.int IntKind.i64 ((dataX f e n1 (textAt e.outs n1)).src), Value.int IntKind.i64 ((dataX f e n1 (textAt e.outs n1)).dst), Value.int IntKind.i64 ((dataX f e n1 (textAt e.outs n1)).num), Value.string (dataX f e n1 (textAt e.outs n1)).text, Value.int IntKind.i64 ((dataX f e n1 (textAt e.outs n1)).ack), Value.int IntKind.i64 ((dataX f e n1 (textAt e.outs n1)).held)]) true] B)))))))))
 (Qb (.exit 0) [(1, Value.func (Fn.func 48) ⟨[Value.pointer (some ⟨(k + 64), 0, none⟩)]⟩ ⟨[]⟩), (5, pksV (eachP f e pre) 0), (8, intsV ns (a + 64)), (9, Value.int IntKind.i64 ((ns.length : Nat) : Int)), (10, Value.int IntKind.i64 ((pre.length : Nat) : Int))] (Ide.pad 64 [.cells (pksC (eachP f e pre)) true] B)))) (by kernel_rfl) ?_
    have hl : ns.length = pre.length + post.length + 1 := by rw [hp]; simp; omega
    have hw : IntKind.wrap .i64 (((pre.length : Nat) : Int) + 1) = (((pre ++ [n]).length : Nat) : Int) := by rw [wrap_i64 (by omega) (by omega)]; simp
    have hcell : cellAt B a (0 + Int.toNat ((pre.length : Nat) : Int) * 1) = some (.int .i64 n) := by
      refine cellAt_of ga ?_
      unfold intsC
      rw [hp, show 0 + Int.toNat ((pre.length : Nat) : Int) * 1 = pre.length by simp]
      simp
    have hb := hn n (by rw [hp]; simp)
    have el : (eachP f e pre).length = pre.length := by simp [eachP]
    refine bcI (fun h => ⟨by omega, by omega, n, hcell, ⟨rfl, rfl⟩, ⟨hb, gX _⟩, ⟨by omega, by omega⟩, by rw [pksC_len]; omega, Nat.le_refl _, ⟨rfl, rfl⟩, by omega, ?_⟩) fun h => by exfalso; simp at h; omega
    rw [pksC_all, hw]
    refine LWQ.move (Move.own hB hm (mp := [(2, 0)]) (l2 := [.cells (pksC (eachP f e (pre ++ [n]))) true]) rfl ⟨.inr (LessO.plainEq (by unfold eachP; rw [List.map_append, pksC_app]; rfl) (ground_pksC _)), trivial⟩
      (env2 := [(1, dataV (k + 64)), (5, pksV (eachP f e (pre ++ [n])) 0), (8, intsV ns (a + 64)), (9, .int .i64 ((ns.length : Nat) : Int)), (10, .int .i64 (((pre ++ [n]).length : Nat) : Int))])
      ⟨⟨rfl, Less.same (by kernel_rfl)⟩, ⟨rfl, ?_⟩, ⟨rfl, Less.same (by kernel_rfl)⟩, ⟨rfl, Less.refl _⟩, ⟨rfl, Less.refl _⟩, trivial⟩) (ih (pre ++ [n]) (by rw [hp]; simp) hx)
    unfold pksV eachP
    rw [List.map_append, List.length_append]
    exact Less.same (by kernel_rfl)

theorem each_ok {a : Nat} {ns : List Int} {ra : Bool} (h : XAt e f k i j m r H) (ha : H[a]? = some (.cells (intsC ns) ra)) (hn : ∀ n ∈ ns, 0 ≤ n ∧ n < e.outs.length) (hlen : ns.length ≤ 1000) :
    ICalls Pr 47 [intsV ns a, dataV k] H (fun r H' => r = .ret (pksV (eachP f e ns) H.length) ∧ H' = H ++ [.cells (pksC (eachP f e ns)) true]) := by
  refine icalls_spine (by kernel_rfl) fun rt hm => ?_
  obtain ⟨R, hR⟩ : ∃ R, R = slotR H.length (fun r H' => r = .ret (pksV (eachP f e ns) H.length) ∧ H' = H ++ [.cells (pksC (eachP f e ns)) true]) := ⟨_, rfl⟩
  obtain ⟨B, hB⟩ : ∃ B, B = H.map (mvO shU) := ⟨_, rfl⟩
  obtain ⟨g1, g2, es, c, g3, L⟩ := h.base
  have ga : B[a]? = some (.cells (intsC ns) ra) := by rw [hB]; exact base_plain ha (ground_intsC _)
  rw [← hB] at g1 g2 g3
  rw [← hR, ← hB, sp47]
  refine iwrl_seg (hs := []) (sc := sc0) (rf := true) mixed sc0_ok 40 [1, 5, 8, 9, 10] A47 _ _ (by kernel_rfl) ?_
  refine Eq.mp (α := (IWRL rt none Pr 22 (.block 0 (.loop L47) :: C47) (bodyS Pr (ressOf Pr 47) R) [(1, Value.func (Fn.func 48) ⟨[Value.pointer (some ⟨(k + 64), 0, none⟩)]⟩ ⟨[]⟩), (5, Value.slice none 0 0), (8, intsV ns (a + 64)), (9, Value.int IntKind.i64 ((ns.length : Nat) : Int)), (10, Value.int IntKind.i64 0)] (Ide.pad 64 [] B))) (by kernel_rfl) ?_
  refine IWRL.move (by simp) (Move.own hB hm (mp := []) (l2 := [.cells (pksC (eachP f e [])) true]) rfl trivial
    (env2 := [(1, dataV (k + 64)), (5, pksV (eachP f e []) 0), (8, intsV ns (a + 64)), (9, .int .i64 ((ns.length : Nat) : Int)), (10, .int .i64 (((([] : List Int).length : Nat)) : Int))])
    ⟨⟨rfl, Less.same (by kernel_rfl)⟩, ⟨rfl, Less.nil _ _ _⟩, ⟨rfl, Less.same (by kernel_rfl)⟩, ⟨rfl, Less.refl _⟩, ⟨rfl, Less.refl _⟩, trivial⟩) ?_
  refine iwrl_loop (each_l hB hm ga (fun l => .of l g1 g2 g3 L) hn hlen _ ns [] rfl ?_)
  show IWRL rt none Pr 22 C47 (bodyS Pr (ressOf Pr 47) R) _ _
  refine iwrl_last (hs := []) (sc := sc0) (rf := true) mixed sc0_ok 40 C47 (by kernel_rfl) ?_
  refine Eq.mp (α := R (.ret (pksV (eachP f e ns) 0)) (pad 64 [.cells (pksC (eachP f e ns)) true] B)) (by kernel_rfl) ?_
  rw [hR, hB]
  exact slot_news _ (pksV (eachP f e ns) H.length) [0] [.cells (pksC (eachP f e ns)) true] (by decide) rfl (newsAt_plain rfl (ground_pksC _) trivial) (Less.same rfl) ⟨rfl, rfl⟩

/-! ### from -/
def upto (i : Int) : Nat → List Int
  | 0 => []
  | c + 1 => i :: upto (i + 1) c
theorem upto_len (i : Int) : ∀ c, (upto i c).length = c
  | 0 => rfl
  | c + 1 => congrArg (· + 1) (upto_len (i + 1) c)
theorem upto_mem {n : Int} : ∀ {c : Nat} {i : Int}, n ∈ upto i c → i ≤ n ∧ n < i + c
  | 0, i, h => by cases h
  | c + 1, i, h => by
    rcases List.mem_cons.1 h with rfl | h
    · omega
    · have := upto_mem h; omega

noncomputable def A45 : List Code := (sp 45).take 2
noncomputable def C45 : List Code := (sp 45).drop 3
noncomputable def L45 : Code := loopOf (sp 45) 2
theorem sp45 : Ide.spine (bodyOf Pr 45) [] = A45 ++ .block 0 (.loop L45) :: C45 := by kernel_rfl

def scFrom (e : SE) (f : Int → Option ByteArray) (k i j m : Nat) (r : Bool) (ns : List Int) (nB : Nat) : SCall :=
  scC 43 (cR [.pointer (some ⟨k + 64, 0, none⟩)] (XAt e f (k + 64) (i + 64) (j + 64) (m + 64) r) (sentV e (i + 64)))
  (scC 47 (cN [intsV ns 0, dataV (k + 64)] (fun H => XAt e f (k + 64) (i + 64) (j + 64) (m + 64) r H ∧ H[0]? = some (.cells (intsC ns) true)) (fun n => pksV (eachP f e ns) n) (fun _ => [.cells (pksC (eachP f e ns)) true])) sc0)
theorem scFrom_ok {ns : List Int} {nB : Nat} (hn : ∀ n ∈ ns, 0 ≤ n ∧ n < e.outs.length) (hlen : ns.length ≤ 1000) : SOk Pr (scFrom e f k i j m r ns nB) :=
  scC_ok (cR_ok fun H h => xsent_ok h) (scC_ok (cN_ok fun H h => each_ok h.1 h.2 hn hlen) sc0_ok)

theorem fly_nn (e : SE) : 0 ≤ flyS e ∧ flyS e ≤ 4 ∧ flyS e ≤ ((e.outs.length : Nat) : Int) := by
  unfold flyS
  split
  · split <;> omega
  · omega

theorem from_l {rt : Root} {B : IHeap} (hB : B = H.map (mvO shU)) (hm : rt.m = 64 + H.length) (gX : ∀ l, XAt e f (k + 64) (i + 64) (j + 64) (m + 64) r (pad 64 l B)) (Qb : IExit → Env → IHeap → Prop) :
    ∀ (c : Nat) (n : Int) (acc : List Int), 0 ≤ n → c = (flyS e - n).toNat → acc.length ≤ 4 - c → c ≤ 4 →
    (∀ z : Int, Qb (.exit 0) [(0, ptrTo (k + 64) 0), (1, .int .i64 z), (5, intsV (acc ++ upto n c) 0)] (pad 64 [.cells (intsC (acc ++ upto n c)) true] B)) →
    LWQ rt none Pr 21 L45 Qb [(0, ptrTo (k + 64) 0), (1, .int .i64 n), (5, intsV acc 0)] (pad 64 [.cells (intsC acc) true] B) := by
  have hf := fly_nn e
  have sok : SOk Pr (scC 43 (cR [.pointer (some ⟨k + 64, 0, none⟩)] (XAt e f (k + 64) (i + 64) (j + 64) (m + 64) r) (sentV e (i + 64))) sc0) := scC_ok (cR_ok fun H h => xsent_ok h) sc0_ok
  intro c
  induction c with
  | zero =>
    intro n acc h0 hc ha h4 hx
    refine lwq_round (hs := []) (rf := true) mixed sok 40 [0, 1, 5] (by kernel_rfl) ?_
    refine Eq.mp (α := (([Value.pointer (some ⟨(k + 64), 0, none⟩)] : List Value) = ([Value.pointer (some ⟨(k + 64), 0, none⟩)] : List Value) ∧ (XAt e f (k + 64) (i + 64) (j + 64) (m + 64) r (Ide.pad 64 [.cells (intsC acc) true] B)) ∧ (Ide.bcase (decide (n < (((flyS e).toNat : Nat) : Int)))
 (((acc.length + 1) * 8 ≤ 70368744177664 ∧ acc.length + 1 ≤ 70368744177664) ∧ (0 + acc.length * 1 ≤ List.length ((intsC acc) : List Value) ∧ (0 + 1 * 1 ≤ List.length ([Value.int IntKind.i64 n] : List Value) ∧ ((1 = 1 ∧ true = true) ∧ acc.length < (acc.length + 1) ∧ (LWQ rt none Pr 21 L45 Qb [(0, Value.pointer (some ⟨(k + 64), 0, none⟩)), (1, Value.int IntKind.i64 (IntKind.wrap .i64 (n + 1))), (5, Value.slice (some ⟨2, 0, some 2⟩) (acc.length + 1) (acc.length + 1))] (Ide.pad 64 [.dead, .cells [Value.int IntKind.i64 n] true, .cells ((List.take (acc.length * 1) (List.drop 0 (intsC acc)) : List Value) ++ [Value.int IntKind.i64 n]) true] B))))))
 (Qb (.exit 0) [(0, Value.pointer (some ⟨(k + 64), 0, none⟩)), (1, Value.int IntKind.i64 n), (5, Value.slice (some ⟨0, 0, some 2⟩) acc.length acc.length)] (Ide.pad 64 [.cells (intsC acc) true] B))))) (by kernel_rfl) ?_
    refine ⟨rfl, gX _, bcI (fun h => by exfalso; simp at h; omega) fun h => ?_⟩
    have := hx n
    simp only [upto, List.append_nil] at this
    exact this
  | succ c ih =>
    intro n acc h0 hc ha h4 hx
    refine lwq_round (hs := []) (rf := true) mixed sok 40 [0, 1, 5] (by kernel_rfl) ?_
    refine Eq.mp (α := (([Value.pointer (some ⟨(k + 64), 0, none⟩)] : List Value) = ([Value.pointer (some ⟨(k + 64), 0, none⟩)] : List Value) ∧ (XAt e f (k + 64) (i + 64) (j + 64) (m + 64) r (Ide.pad 64 [.cells (intsC acc) true] B)) ∧ (Ide.bcase (decide (n < (((flyS e).toNat : Nat) : Int)))
 (((acc.length + 1) * 8 ≤ 70368744177664 ∧ acc.length + 1 ≤ 70368744177664) ∧ (0 + acc.length * 1 ≤ List.length ((intsC acc) : List Value) ∧ (0 + 1 * 1 ≤ List.length ([Value.int IntKind.i64 n] : List Value) ∧ ((1 = 1 ∧ true = true) ∧ acc.length < (acc.length + 1) ∧ (LWQ rt none Pr 21 L45 Qb [(0, Value.pointer (some ⟨(k + 64), 0, none⟩)), (1, Value.int IntKind.i64 (IntKind.wrap .i64 (n + 1))), (5, Value.slice (some ⟨2, 0, some 2⟩) (acc.length + 1) (acc.length + 1))] (Ide.pad 64 [.dead, .cells [Value.int IntKind.i64 n] true, .cells ((List.take (acc.length * 1) (List.drop 0 (intsC acc)) : List Value) ++ [Value.int IntKind.i64 n]) true] B))))))
 (Qb (.exit 0) [(0, Value.pointer (some ⟨(k + 64), 0, none⟩)), (1, Value.int IntKind.i64 n), (5, Value.slice (some ⟨0, 0, some 2⟩) acc.length acc.length)] (Ide.pad 64 [.cells (intsC acc) true] B))))) (by kernel_rfl) ?_
    have hw : IntKind.wrap .i64 (n + 1) = n + 1 := wrap_i64 (by omega) (by omega)
    refine ⟨rfl, gX _, bcI (fun h => ⟨⟨by omega, by omega⟩, by rw [intsC_len]; omega, Nat.le_refl _, ⟨rfl, rfl⟩, by omega, ?_⟩) fun h => by exfalso; simp at h; omega⟩
    rw [intsC_all, hw]
    have e1 : acc ++ upto n (c + 1) = (acc ++ [n]) ++ upto (n + 1) c := by simp [upto]
    refine LWQ.move (Move.own hB hm (mp := [(2, 0)]) (l2 := [.cells (intsC (acc ++ [n])) true]) rfl ⟨.inr (LessO.plainEq (by unfold intsC; rw [List.map_append]; rfl) (ground_intsC _)), trivial⟩
      (env2 := [(0, ptrTo (k + 64) 0), (1, .int .i64 (n + 1)), (5, intsV (acc ++ [n]) 0)])
      ⟨⟨rfl, Less.same (by kernel_rfl)⟩, ⟨rfl, Less.refl _⟩, ⟨rfl, ?_⟩, trivial⟩) (ih (n + 1) (acc ++ [n]) (by omega) (by omega) (by simp; omega) (by omega) (fun z => by rw [← e1]; exact hx z))
    unfold intsV
    rw [List.length_append]
    exact Less.same (by kernel_rfl)

/-- The sent messages from one on. -/
def fromN (e : SE) (n : Int) : List Int := upto n (flyS e - n).toNat

theorem from_ok {n : Int} (hn : 0 ≤ n) (h : XAt e f k i j m r H) : ICalls Pr 45 [.pointer (some ⟨k, 0, none⟩), .int .i64 n] H (fun r H' => r = .ret (pksV (eachP f e (fromN e n)) H.length) ∧ H' = H ++ [.cells (pksC (eachP f e (fromN e n))) true]) := by
  refine icalls_spine (by kernel_rfl) fun rt hm => ?_
  obtain ⟨R, hR⟩ : ∃ R, R = slotR H.length (fun r H' => r = .ret (pksV (eachP f e (fromN e n)) H.length) ∧ H' = H ++ [.cells (pksC (eachP f e (fromN e n))) true]) := ⟨_, rfl⟩
  obtain ⟨B, hB⟩ : ∃ B, B = H.map (mvO shU) := ⟨_, rfl⟩
  obtain ⟨g1, g2, es, c, g3, L⟩ := h.base
  rw [← hB] at g1 g2 g3
  rw [← hR, ← hB, sp45]
  have gX : ∀ l, XAt e f (k + 64) (i + 64) (j + 64) (m + 64) r (pad 64 l B) := fun l => .of l g1 g2 g3 L
  have hf := fly_nn e
  refine iwrl_seg (hs := []) (sc := sc0) (rf := true) mixed sc0_ok 40 [0, 1, 5] A45 _ _ (by kernel_rfl) ?_
  refine Eq.mp (α := (IWRL rt none Pr 21 (.block 0 (.loop L45) :: C45) (bodyS Pr (ressOf Pr 45) R) [(0, Value.pointer (some ⟨(k + 64), 0, none⟩)), (1, Value.int IntKind.i64 n), (5, Value.slice none 0 0)] (Ide.pad 64 [] B))) (by kernel_rfl) ?_
  refine IWRL.move (by simp) (Move.own hB hm (mp := []) (l2 := [.cells (intsC []) true]) rfl trivial
    (env2 := [(0, ptrTo (k + 64) 0), (1, .int .i64 n), (5, intsV [] 0)]) ⟨⟨rfl, Less.same (by kernel_rfl)⟩, ⟨rfl, Less.refl _⟩, ⟨rfl, Less.nil _ _ _⟩, trivial⟩) ?_
  refine iwrl_loop (from_l hB hm gX _ (flyS e - n).toNat n [] hn rfl (by simp) (by omega) fun z => ?_)
  obtain ⟨ns, hns⟩ : ∃ ns, ns = fromN e n := ⟨_, rfl⟩
  show IWRL rt none Pr 21 C45 (bodyS Pr (ressOf Pr 45) R) [(0, ptrTo (k + 64) 0), (1, .int .i64 z), (5, intsV (fromN e n) 0)] (pad 64 [.cells (intsC (fromN e n)) true] B)
  rw [← hns] at hR ⊢
  have hmem : ∀ x ∈ ns, 0 ≤ x ∧ x < e.outs.length := fun x hx => by
    rw [hns] at hx
    have := upto_mem hx
    omega
  have hlen : ns.length ≤ 1000 := by rw [hns]; unfold fromN; rw [upto_len]; omega
  refine iwrl_last (hs := []) (sc := scFrom e f k i j m r ns 0) (rf := true) mixed (scFrom_ok hmem hlen) 40 C45 (by kernel_rfl) ?_
  refine Eq.mp (α := (([intsV ns 0, Value.func (Fn.func 48) ⟨[Value.pointer (some ⟨(k + 64), 0, none⟩)]⟩ ⟨[]⟩] : List Value) = ([intsV ns 0, Value.func (Fn.func 48) ⟨[Value.pointer (some ⟨(k + 64), 0, none⟩)]⟩ ⟨[]⟩] : List Value) ∧ (XAt e f (k + 64) (i + 64) (j + 64) (m + 64) r (Ide.pad 64 [.cells (intsC ns) true] B) ∧ ((Ide.pad 64 [.cells (intsC ns) true] B) : IHeap)[0]? = some (.cells (intsC ns) true)) ∧ (R (IEnd.ret (pksV (eachP f e ns) (List.length B + 64))) (Ide.pad 64 [.cells (intsC ns) true] (B ++ [.cells (pksC (eachP f e ns)) true]))))) (by kernel_rfl) ?_
  refine ⟨rfl, ⟨gX _, rfl⟩, ?_⟩
  rw [hR, hB]
  refine slot_ext _ (pksV (eachP f e ns) H.length) [] [.cells (pksC (eachP f e ns)) true] [.cells (pksC (eachP f e ns)) true] [] (by simp) rfl ⟨LessO.plain (ground_pksC _), trivial⟩ trivial ?_ ⟨rfl, by simp⟩
  rw [List.length_map]
  refine Less.same ?_
  simp only [pksV, mvV, unS_sh]

end
end Go.Proofs.Ytoikiogaiikheaa.Sess

/- An end is closed again. -/
set_option linter.unusedVariables false
set_option linter.unusedSimpArgs false
set_option maxRecDepth 10000
namespace Go.Proofs.Ytoikiogaiikheaa.Sess
open Go Go.RowKit Ide Go.Proofs

/-- The messages that came early, by their numbers. -/
def numJ (want j : Int) : Int := IntKind.wrap .i64 (IntKind.wrap .i64 (want + 1) + j)
def reb (f : Int → Option ByteArray) (want : Int) : Int → Nat → List (Int × ByteArray)
  | _, 0 => []
  | j, c + 1 => (match f (numJ want j) with | some s => [(numJ want j, s)] | none => []) ++ reb f want (j + 1) c
def xwS (e : SE) (i m : Nat) (acc : List (Int × ByteArray)) : List Value := [.int .i64 e.life, .int .i64 e.peer, .int .i64 e.phase, .int .i64 e.base, .slice (some ⟨i, 0, some 4⟩) e.outs.length e.outs.length, .int .i64 e.want, .slice (some ⟨1, 0, some 4⟩) acc.length acc.length, .map (some m)]
def zeroC : List Value := [.int .i64 0, .int .i64 0, .int .i64 0, .int .i64 0, .slice none 0 0, .int .i64 0, .slice none 0 0]

noncomputable def A44 : List Code := (sp 44).take 3
noncomputable def C44 : List Code := (sp 44).drop 4
noncomputable def L44 : Code := loopOf (sp 44) 3
theorem sp44 : Ide.spine (bodyOf Pr 44) [] = A44 ++ .block 0 (.loop L44) :: C44 := by kernel_rfl

section
variable {e : SE} {f : Int → Option ByteArray} {k i j m : Nat} {r : Bool} {H : IHeap}

theorem shut_l {rt : Root} {B : IHeap} (hB : B = H.map (mvO shU)) (hm : rt.m = 64 + H.length) {o : IObj} (gk : B[k]? = some o) {es : List MapEntry} {c : Nat} (gm : B[m]? = some (.map es c)) (hkm : k ≠ m) (L : Look es f) (Qb : IExit → Env → IHeap → Prop) :
    ∀ (n : Nat) (jj : Int) (acc : List (Int × ByteArray)), jj + n = 3 → 0 ≤ jj → acc.length ≤ jj →
    Qb (.exit 0) [(0, ptrTo (k + 64) 0), (2, ptrTo 0 0), (10, .int .i64 3)] (pad 64 [.cells zeroC true, .cells (inC (acc ++ reb f e.want jj n)) true] (B.set k (.cells (xwS e (i + 64) (m + 64) (acc ++ reb f e.want jj n)) true))) →
    LWQ rt none Pr 56 L44 Qb [(0, ptrTo (k + 64) 0), (2, ptrTo 0 0), (10, .int .i64 jj)] (pad 64 [.cells zeroC true, .cells (inC acc) true] (B.set k (.cells (xwS e (i + 64) (m + 64) acc) true))) := by
  have gset : ∀ X, (B.set k X)[k]? = some X := fun X => set_self gk
  have gmap : ∀ X, (B.set k X)[m]? = some (.map es c) := fun X => set_other gm hkm
  intro n
  induction n with
  | zero =>
    intro jj acc hj h0 ha hx
    obtain rfl : jj = 3 := by omega
    refine lwq_round (hs := [(17, .val (fun _ => Value.map (some (m + 64)))), (22, .val (fun _ => Value.int IntKind.i64 e.want)), (35, .val (fun _ => Value.slice (some ⟨1, 0, some 4⟩) acc.length acc.length)), (40, .val (fun _ => Value.int IntKind.i64 e.want))]) (rf := true) mixed sc0_ok 40 [0, 2, 10] (by kernel_rfl) ?_
    have := hx
    simp only [reb, List.append_nil] at this
    exact Eq.mp (α := Qb (.exit 0) [(0, ptrTo (k + 64) 0), (2, ptrTo 0 0), (10, .int .i64 3)] (pad 64 [.cells zeroC true, .cells (inC acc) true] (B.set k (.cells (xwS e (i + 64) (m + 64) acc) true)))) (by kernel_rfl) this
  | succ n ih =>
    intro jj acc hj h0 ha hx
    refine lwq_round (hs := [(17, .val (fun _ => Value.map (some (m + 64)))), (22, .val (fun _ => Value.int IntKind.i64 e.want)), (35, .val (fun _ => Value.slice (some ⟨1, 0, some 4⟩) acc.length acc.length)), (40, .val (fun _ => Value.int IntKind.i64 e.want))]) (rf := true) mixed sc0_ok 40 [0, 2, 10] (by kernel_rfl) ?_
    refine Eq.mp (α := (Ide.bcase (decide (jj < 3))
 (Ide.cellAt (List.set B k (.cells (xwS e (i + 64) (m + 64) acc) true)) k 7 = some (Value.map (some (m + 64))) ∧ (Ide.cellAt (List.set B k (.cells (xwS e (i + 64) (m + 64) acc) true)) k 5 = some (Value.int IntKind.i64 e.want) ∧ (∃ (es1 : List MapEntry) (c2 : Nat), (List.set B k (.cells (xwS e (i + 64) (m + 64) acc) true) : IHeap)[m]? = some (.map es1 c2) ∧ (true = true ∧ ∃ r3 : Option Value, Ide.findV Pr 3 (Value.int IntKind.i64 (IntKind.wrap .i64 ((IntKind.wrap .i64 (e.want + 1)) + jj))) es1 = some r3 ∧ Ide.optS r3 (fun t4 => (Ide.cellAt (List.set B k (.cells (xwS e (i + 64) (m + 64) acc) true)) k 6 = some (Value.slice (some ⟨1, 0, some 4⟩) acc.length acc.length) ∧ (Ide.cellAt (List.set B k (.cells (xwS e (i + 64) (m + 64) acc) true)) k 5 = some (Value.int IntKind.i64 e.want) ∧ (((acc.length + 1) * 24 ≤ 70368744177664 ∧ acc.length + 1 ≤ 70368744177664) ∧ (0 + acc.length * 2 ≤ List.length ((inC acc) : List Value) ∧ (0 + 1 * 2 ≤ List.length ([Value.int IntKind.i64 (IntKind.wrap .i64 ((IntKind.wrap .i64 (e.want + 1)) + jj)), Value.string t4] : List Value) ∧ ((2 = 2 ∧ true = true) ∧ acc.length < (acc.length + 1) ∧ (∃ cs5 : List Value, (List.set B k (.cells (xwS e (i + 64) (m + 64) acc) true) : IHeap)[k]? = some (.cells cs5 true) ∧ 6 + 1 ≤ List.length cs5 ∧ (LWQ rt none Pr 56 L44 Qb [(0, Value.pointer (some ⟨(k + 64), 0, none⟩)), (2, Value.pointer (some ⟨0, 0, none⟩)), (10, Value.int IntKind.i64 (IntKind.wrap .i64 (jj + 1)))] (Ide.pad 64 [.cells [Value.int IntKind.i64 0, Value.int IntKind.i64 0, Value.int IntKind.i64 0, Value.int IntKind.i64 0, Value.slice none 0 0, Value.int IntKind.i64 0, Value.slice none 0 0] true, .dead, .cells [Value.int IntKind.i64 (IntKind.wrap .i64 ((IntKind.wrap .i64 (e.want + 1)) + jj)), Value.string t4] true, .cells ((List.take (acc.length * 2) (List.drop 0 (inC acc)) : List Value) ++ [Value.int IntKind.i64 (IntKind.wrap .i64 ((IntKind.wrap .i64 (e.want + 1)) + jj)), Value.string t4]) true] (List.set (List.set B k (.cells (xwS e (i + 64) (m + 64) acc) true)) k (.cells (Ide.splice cs5 6 [Value.slice (some ⟨3, 0, some 4⟩) (acc.length + 1) (acc.length + 1)]) true)))))))))))) (LWQ rt none Pr 56 L44 Qb [(0, Value.pointer (some ⟨(k + 64), 0, none⟩)), (2, Value.pointer (some ⟨0, 0, none⟩)), (10, Value.int IntKind.i64 (IntKind.wrap .i64 (jj + 1)))] (Ide.pad 64 [.cells [Value.int IntKind.i64 0, Value.int IntKind.i64 0, Value.int IntKind.i64 0, Value.int IntKind.i64 0, Value.slice none 0 0, Value.int IntKind.i64 0, Value.slice none 0 0] true, .cells (inC acc) true] (List.set B k (.cells (xwS e (i + 64) (m + 64) acc) true))))))))
 (Qb (.exit 0) [(0, Value.pointer (some ⟨(k + 64), 0, none⟩)), (2, Value.pointer (some ⟨0, 0, none⟩)), (10, Value.int IntKind.i64 jj)] (Ide.pad 64 [.cells [Value.int IntKind.i64 0, Value.int IntKind.i64 0, Value.int IntKind.i64 0, Value.int IntKind.i64 0, Value.slice none 0 0, Value.int IntKind.i64 0, Value.slice none 0 0] true, .cells (inC acc) true] (List.set B k (.cells (xwS e (i + 64) (m + 64) acc) true)))))) (by kernel_rfl) ?_
    have hw : IntKind.wrap .i64 (jj + 1) = jj + 1 := wrap_i64 (by omega) (by omega)
    rw [hw, inC_all]
    refine bcI (fun h => ⟨cellAt_of (gset _) rfl, cellAt_of (gset _) rfl, es, c, gmap _, look_opt L _ (fun s hs => ?_) (fun hs => ?_)⟩) fun h => by exfalso; simp at h; omega
    · have e1 : acc ++ reb f e.want jj (n + 1) = (acc ++ [(numJ e.want jj, s)]) ++ reb f e.want (jj + 1) n := by
        have hs' : f (numJ e.want jj) = some s := hs
        simp only [reb, hs', List.append_assoc]
      refine ⟨cellAt_of (gset _) rfl, cellAt_of (gset _) rfl, ⟨by omega, by omega⟩, by rw [inC_len]; omega, Nat.le_refl _, ⟨rfl, rfl⟩, by omega, _, gset _, by simp [xwS], ?_⟩
      rw [List.set_set]
      refine LWQ.move (Move.own1 hB hm (mp := [(0, 0), (3, 1)]) (o2 := .cells (xwS e (i + 64) (m + 64) (acc ++ [(numJ e.want jj, s)])) true) (l2 := [.cells zeroC true, .cells (inC (acc ++ [(numJ e.want jj, s)])) true]) rfl
        ⟨.inr (LessO.same (by kernel_rfl)), .inr (LessO.plainEq (by rw [inC_append]; rfl) (ground_inC _)), trivial⟩ (LessO.same' ?_)
        (env2 := [(0, ptrTo (k + 64) 0), (2, ptrTo 0 0), (10, .int .i64 (jj + 1))]) ⟨⟨rfl, Less.same (by kernel_rfl)⟩, ⟨rfl, Less.same (by kernel_rfl)⟩, ⟨rfl, Less.refl _⟩, trivial⟩)
        (ih (jj + 1) (acc ++ [(numJ e.want jj, s)]) (by omega) (by omega) (by simp; omega) (by rw [← e1]; exact hx))
      unfold xwS
      rw [List.length_append]
      exact (by kernel_rfl)
    · have e1 : acc ++ reb f e.want jj (n + 1) = acc ++ reb f e.want (jj + 1) n := by
        have hs' : f (numJ e.want jj) = none := hs
        simp only [reb, hs', List.nil_append]
      exact ih (jj + 1) acc (by omega) (by omega) (by omega) (by rw [← e1]; exact hx)

/-- The end as it is closed. -/
def shutE (e : SE) (f : Int → Option ByteArray) : SE := { e with ins := reb f e.want 0 3 }

theorem shut_ok (h : XAt e f k i j m r H) : ICalls Pr 44 [.pointer (some ⟨k, 0, none⟩)] H (fun r H' => r = .ret (endP (shutE e f) i H.length) ∧ H' = H.set k (.cells (xw (shutE e f) i H.length m) true) ++ [.cells (inC (shutE e f).ins) true]) := by
  refine icalls_spine (by kernel_rfl) fun rt hm => ?_
  obtain ⟨R, hR⟩ : ∃ R, R = slotR H.length (fun r H' => r = .ret (endP (shutE e f) i H.length) ∧ H' = H.set k (.cells (xw (shutE e f) i H.length m) true) ++ [.cells (inC (shutE e f).ins) true]) := ⟨_, rfl⟩
  obtain ⟨B, hB⟩ : ∃ B, B = H.map (mvO shU) := ⟨_, rfl⟩
  obtain ⟨g1, g2, es, c, g3, L⟩ := h.base
  rw [← hB] at g1 g2 g3
  rw [← hR, ← hB, sp44]
  have hkm : k ≠ m := fun e => by rw [e, g3] at g1; cases g1
  refine iwrl_seg (hs := []) (sc := sc0) (rf := true) mixed sc0_ok 40 [0, 2, 10] A44 _ _ (by kernel_rfl) ?_
  refine Eq.mp (α := (∃ cs1 : List Value, (B : IHeap)[k]? = some (.cells cs1 true) ∧ 6 + 1 ≤ List.length cs1 ∧ (IWRL rt none Pr 56 (.block 0 (.loop L44) :: C44) (bodyS Pr (ressOf Pr 44) R) [(0, Value.pointer (some ⟨(k + 64), 0, none⟩)), (2, Value.pointer (some ⟨0, 0, none⟩)), (10, Value.int IntKind.i64 0)] (Ide.pad 64 [.cells [Value.int IntKind.i64 0, Value.int IntKind.i64 0, Value.int IntKind.i64 0, Value.int IntKind.i64 0, Value.slice none 0 0, Value.int IntKind.i64 0, Value.slice none 0 0] true] (List.set B k (.cells (Ide.splice cs1 6 [Value.slice none 0 0]) true)))))) (by kernel_rfl) ?_
  refine ⟨_, g1, by simp [xw, endW64], ?_⟩
  refine IWRL.move (by simp) (Move.own1 hB hm (mp := [(0, 0)]) (o2 := .cells (xwS e (i + 64) (m + 64) []) true) (l2 := [.cells zeroC true, .cells (inC []) true]) rfl
    ⟨.inr (LessO.same (by kernel_rfl)), trivial⟩ ?_
    (env2 := [(0, ptrTo (k + 64) 0), (2, ptrTo 0 0), (10, .int .i64 0)]) ⟨⟨rfl, Less.same (by kernel_rfl)⟩, ⟨rfl, Less.same (by kernel_rfl)⟩, ⟨rfl, Less.refl _⟩, trivial⟩) ?_
  · refine .inr ⟨_, _, _, rfl, rfl, ?_⟩
    refine ⟨Less.refl _, Less.refl _, Less.refl _, Less.refl _, Less.same (by kernel_rfl), Less.refl _, Less.nil _ _ _, Less.same (by kernel_rfl), trivial⟩
  refine iwrl_loop (shut_l hB hm g1 g3 hkm L _ 3 0 [] rfl (by omega) (by simp) ?_)
  show IWRL rt none Pr 56 C44 (bodyS Pr (ressOf Pr 44) R) [(0, ptrTo (k + 64) 0), (2, ptrTo 0 0), (10, .int .i64 3)] (pad 64 [.cells zeroC true, .cells (inC (reb f e.want 0 3)) true] (B.set k (.cells (xwS e (i + 64) (m + 64) (reb f e.want 0 3)) true)))
  obtain ⟨acc, hacc⟩ : ∃ acc, acc = reb f e.want 0 3 := ⟨_, rfl⟩
  rw [← hacc]
  refine iwrl_last (hs := [(55, .val (fun _ => Value.agg ⟨[Value.int IntKind.i64 e.life, Value.int IntKind.i64 e.peer, Value.int IntKind.i64 e.phase, Value.int IntKind.i64 e.base, Value.slice (some ⟨(i + 64), 0, some 4⟩) e.outs.length e.outs.length, Value.int IntKind.i64 e.want, Value.slice (some ⟨1, 0, some 4⟩) acc.length acc.length]⟩))]) (sc := sc0) (rf := true) mixed sc0_ok 40 C44 (by kernel_rfl) ?_
  refine Eq.mp (α := (Ide.cellsAt (List.set B k (.cells (xwS e (i + 64) (m + 64) acc) true)) k 0 7 = some [Value.int IntKind.i64 e.life, Value.int IntKind.i64 e.peer, Value.int IntKind.i64 e.phase, Value.int IntKind.i64 e.base, Value.slice (some ⟨(i + 64), 0, some 4⟩) e.outs.length e.outs.length, Value.int IntKind.i64 e.want, Value.slice (some ⟨1, 0, some 4⟩) acc.length acc.length] ∧ (R (IEnd.ret (Value.agg ⟨[Value.int IntKind.i64 e.life, Value.int IntKind.i64 e.peer, Value.int IntKind.i64 e.phase, Value.int IntKind.i64 e.base, Value.slice (some ⟨(i + 64), 0, some 4⟩) e.outs.length e.outs.length, Value.int IntKind.i64 e.want, Value.slice (some ⟨1, 0, some 4⟩) acc.length acc.length]⟩)) (Ide.pad 64 [.cells [Value.int IntKind.i64 e.life, Value.int IntKind.i64 e.peer, Value.int IntKind.i64 e.phase, Value.int IntKind.i64 e.base, Value.slice (some ⟨(i + 64), 0, some 4⟩) e.outs.length e.outs.length, Value.int IntKind.i64 e.want, Value.slice (some ⟨1, 0, some 4⟩) acc.length acc.length] true, .cells (inC acc) true] (List.set B k (.cells (xwS e (i + 64) (m + 64) acc) true)))))) (by kernel_rfl) ?_
  refine ⟨cellsAt_known (set_self g1) (by simp [xwS]) rfl, ?_⟩
  have hs : shutE e f = { e with ins := acc } := by unfold shutE; rw [hacc]
  rw [hR, hB, hs]
  refine slot_set _ (endP { e with ins := acc } i H.length) [1] [.cells (inC acc) true] (by decide) rfl (LessO.same' (o' := .cells (xw { e with ins := acc } i H.length m) true) ?_) (newsAt_plain rfl (ground_inC _) trivial) ?_ ⟨rfl, rfl⟩
  · simp only [mvO, xwS, mvV, mvV.goL, unS_sh, xw, endW64, List.cons_append, List.nil_append]
    rfl
  · refine Less.same ?_
    simp only [mvV, mvV.go, mvV.goL, unS_sh, endP]
    rfl

end
end Go.Proofs.Ytoikiogaiikheaa.Sess

/- Send and Tick of the program. -/
set_option linter.unusedVariables false
set_option linter.unusedSimpArgs false
set_option maxRecDepth 10000
namespace Go.Proofs.Ytoikiogaiikheaa.Sess
open Go Go.RowKit Ide Go.Proofs

section
variable {e : SE} {i j : Nat} {r1 r2 : Bool} {H : IHeap}

theorem xW_xw {e : SE} (z : Nz e) (a b m : Nat) : xW e (adr e.oz a) (adr e.iz b) m = xw e a b m := by
  obtain ⟨life, peer, phase, base, want, oz, iz, outs, ins⟩ := e
  obtain ⟨⟨h1, h2⟩, _, _⟩ := z
  cases h1
  cases h2
  rfl
theorem open_p (z : Nz e) (h : HasP e i j r1 r2 H) : ICalls Pr 42 [endP e i j] H (fun r H' => ∃ es c, Look es (insF e.ins) ∧ r = .ret (.pointer (some ⟨H.length, 0, none⟩)) ∧ H' = H ++ [.cells (xw e (H.length + 1) j (H.length + 2)) true, .cells (outC e.outs) true, .map es c]) := by
  rw [← endP_at z.z]
  refine (open_at z.wf z.on h.out h.inn h.ne).mono fun r H' hr => ?_
  obtain ⟨es, c, h1, h2, h3⟩ := hr
  exact ⟨es, c, h1, h2, by rw [h3, xW_xw z]⟩

/-- The contract of open. -/
def cO (e : SE) (i j : Nat) (r1 r2 : Bool) : Ctr := fun args H K => args = [endP e i j] ∧ HasP e i j r1 r2 H ∧ ∀ es c, Look es (insF e.ins) → K (.pointer (some ⟨H.length, 0, none⟩)) (H ++ [.cells (xw e (H.length + 1) j (H.length + 2)) true, .cells (outC e.outs) true, .map es c])
theorem cO_ok (z : Nz e) : ∀ args H K, cO e i j r1 r2 args H K → ICalls Pr 42 args H (fun e H' => ∃ v, e = .ret v ∧ K v H') := by
  rintro args H K ⟨rfl, hp, hk⟩
  exact (open_p z hp).mono fun e H' he => by
    obtain ⟨es, c, h1, h2, h3⟩ := he
    exact ⟨_, h2, by rw [h3]; exact hk es c h1⟩
/-- The contract of shut. -/
def cS (e : SE) (f : Int → Option ByteArray) (k i j m q : Nat) : Ctr := fun args H K => args = [.pointer (some ⟨k, 0, none⟩)] ∧ (XAt e f k i j m true H ∧ H.length = q) ∧ K (endP (shutE e f) i q) (H.set k (.cells (xw (shutE e f) i q m) true) ++ [.cells (inC (shutE e f).ins) true])
theorem cS_ok {f : Int → Option ByteArray} {k m q : Nat} : ∀ args H K, cS e f k i j m q args H K → ICalls Pr 44 args H (fun e H' => ∃ v, e = .ret v ∧ K v H') := by
  rintro args H K ⟨rfl, ⟨hp, rfl⟩, hk⟩
  exact (shut_ok hp).mono fun e H' he => ⟨_, he.1, by rw [he.2]; exact hk⟩

/-- The end that Send returns, and its packets. -/
def ssE (e : SE) (text : ByteArray) : SE := shutE (more e text) (insF e.ins)
def ssP (e : SE) (text : ByteArray) : List Pkt := eachP (insF e.ins) (ssE e text) (fromN (ssE e text) (((flyS e).toNat : Nat) : Int))
def SSendR (e : SE) (ok : Bool) (text : ByteArray) (H : IHeap) (r : IEnd) (H' : IHeap) : Prop :=
  if sendE e ok text = 0 then ∃ objs i j k, H' = H ++ objs ∧ r = .ret (.tuple ⟨[endP (ssE e text) i j, pksV (ssP e text) k, .int .i64 0]⟩) ∧ H'[i]? = some (.cells (outC (ssE e text).outs) true) ∧ H'[j]? = some (.cells (inC (ssE e text).ins) true) ∧ H'[k]? = some (.cells (pksC (ssP e text)) true) ∧ (H.length ≤ i ∧ H.length ≤ j ∧ H.length ≤ k)
  else ∃ objs, H' = H ++ objs ∧ r = .ret (.tuple ⟨[zeroE, .slice none 0 0, .int .i64 (sendE e ok text)]⟩)

def scSS (e : SE) (i j : Nat) (r1 r2 : Bool) (text : ByteArray) (n : Nat) : SCall :=
  scC 36 (cR [endP e (i + 64) (j + 64)] (HasP e (i + 64) (j + 64) r1 r2) (.bool (fineS e)))
  (scC 42 (cO e (i + 64) (j + 64) r1 r2)
  (scC 43 (cR [.pointer (some ⟨n + 64, 0, none⟩)] (XAt e (insF e.ins) (n + 64) (n + 1 + 64) (j + 64) (n + 2 + 64) true) (sentV e (n + 1 + 64)))
  (scC 44 (cS (more e text) (insF e.ins) (n + 64) 3 (j + 64) (n + 2 + 64) (n + 3 + 64))
  (scC 45 (cQ [.pointer (some ⟨n + 64, 0, none⟩), .int .i64 (((flyS e).toNat : Nat) : Int)] (XAt (ssE e text) (insF e.ins) (n + 64) 3 (n + 3 + 64) (n + 2 + 64) true) (n + 4 + 64) (fun q => pksV (ssP e text) q) [.cells (pksC (ssP e text)) true]) sc0))))
theorem scSS_ok (z : Nz e) {text : ByteArray} {n : Nat} : SOk Pr (scSS e i j r1 r2 text n) :=
  scC_ok (cR_ok fun H h => fine_p z h) (scC_ok (cO_ok z) (scC_ok (cR_ok fun H h => xsent_ok h) (scC_ok cS_ok (scC_ok (cQ_ok fun H h => from_ok (by omega) h) sc0_ok))))

theorem ssend_ok (z : Nz e) (hl : e.outs.length ≤ 900) (h : HasP e i j r1 r2 H) (text : ByteArray) : ICalls Pr 16 [endP e i j, .string text] H (SSendR e (fineS e) text H) := by
  refine icalls_sy (hs := [(44, .val (fun _ => Value.slice (some ⟨(((H.map (mvO shU)).length + 1) + 64), 0, some 4⟩) e.outs.length e.outs.length))]) (sc := scSS e i j r1 r2 text (H.map (mvO shU)).length) 40 mixed (scSS_ok z) (by kernel_rfl) (by kernel_rfl) ?_
  obtain ⟨R, hR⟩ : ∃ R, R = slotR H.length (SSendR e (fineS e) text H) := ⟨_, rfl⟩
  obtain ⟨B, hB⟩ : ∃ B, B = H.map (mvO shU) := ⟨_, rfl⟩
  rw [← hR, ← hB]
  have hBl : B.length = H.length := by rw [hB]; simp
  have g1 : B[i]? = some (.cells (outC e.outs) r1) := by rw [hB]; exact base_plain h.out (ground_outC _)
  have g2 : B[j]? = some (.cells (inC e.ins) r2) := by rw [hB]; exact base_plain h.inn (ground_inC _)
  have gH : ∀ l, HasP e (i + 64) (j + 64) r1 r2 (pad 64 l B) := fun l => ⟨by rw [pad_high]; exact g1, by rw [pad_high]; exact g2, by have := h.ne; omega⟩
  have err : ∀ (l : List IObj) (c : Int), sendE e (fineS e) text = c → c ≠ 0 → R (.ret (.tuple ⟨[zeroE, .slice none 0 0, .int .i64 c]⟩)) (pad 64 l B) := by
    intro l c h1 h2
    rw [hR, hB]
    refine slot_same _ (.tuple ⟨[zeroE, .slice none 0 0, .int .i64 c]⟩) rfl ?_
    unfold SSendR
    rw [h1, if_neg h2]
    exact ⟨[], by simp, rfl⟩
  refine Eq.mp (α := (([Value.agg ⟨[Value.int IntKind.i64 e.life, Value.int IntKind.i64 e.peer, Value.int IntKind.i64 e.phase, Value.int IntKind.i64 e.base, Value.slice (some ⟨(i + 64), 0, some 4⟩) e.outs.length e.outs.length, Value.int IntKind.i64 e.want, Value.slice (some ⟨(j + 64), 0, some 4⟩) e.ins.length e.ins.length]⟩] : List Value) = ([endP e (i + 64) (j + 64)] : List Value) ∧ (HasP e (i + 64) (j + 64) r1 r2 (Ide.pad 64 [.cells [Value.int IntKind.i64 e.life, Value.int IntKind.i64 e.peer, Value.int IntKind.i64 e.phase, Value.int IntKind.i64 e.base, Value.slice (some ⟨(i + 64), 0, some 4⟩) e.outs.length e.outs.length, Value.int IntKind.i64 e.want, Value.slice (some ⟨(j + 64), 0, some 4⟩) e.ins.length e.ins.length] true, .cells [Value.int IntKind.i64 0, Value.int IntKind.i64 0, Value.int IntKind.i64 0, Value.int IntKind.i64 0, Value.slice none 0 0, Value.int IntKind.i64 0, Value.slice none 0 0] true] B)) ∧ (Ide.bcase (!(fineS e))
 (R (IEnd.ret (Value.tuple ⟨[Value.agg ⟨[Value.int IntKind.i64 0, Value.int IntKind.i64 0, Value.int IntKind.i64 0, Value.int IntKind.i64 0, Value.slice none 0 0, Value.int IntKind.i64 0, Value.slice none 0 0]⟩, Value.slice none 0 0, Value.int IntKind.i64 2]⟩)) (Ide.pad 64 [.cells [Value.int IntKind.i64 e.life, Value.int IntKind.i64 e.peer, Value.int IntKind.i64 e.phase, Value.int IntKind.i64 e.base, Value.slice (some ⟨(i + 64), 0, some 4⟩) e.outs.length e.outs.length, Value.int IntKind.i64 e.want, Value.slice (some ⟨(j + 64), 0, some 4⟩) e.ins.length e.ins.length] true, .cells [Value.int IntKind.i64 0, Value.int IntKind.i64 0, Value.int IntKind.i64 0, Value.int IntKind.i64 0, Value.slice none 0 0, Value.int IntKind.i64 0, Value.slice none 0 0] true] B))
 (Ide.bcase (decide (((ByteArray.size text : Nat) : Int) > 20))
 (R (IEnd.ret (Value.tuple ⟨[Value.agg ⟨[Value.int IntKind.i64 0, Value.int IntKind.i64 0, Value.int IntKind.i64 0, Value.int IntKind.i64 0, Value.slice none 0 0, Value.int IntKind.i64 0, Value.slice none 0 0]⟩, Value.slice none 0 0, Value.int IntKind.i64 3]⟩)) (Ide.pad 64 [.cells [Value.int IntKind.i64 e.life, Value.int IntKind.i64 e.peer, Value.int IntKind.i64 e.phase, Value.int IntKind.i64 e.base, Value.slice (some ⟨(i + 64), 0, some 4⟩) e.outs.length e.outs.length, Value.int IntKind.i64 e.want, Value.slice (some ⟨(j + 64), 0, some 4⟩) e.ins.length e.ins.length] true, .cells [Value.int IntKind.i64 0, Value.int IntKind.i64 0, Value.int IntKind.i64 0, Value.int IntKind.i64 0, Value.slice none 0 0, Value.int IntKind.i64 0, Value.slice none 0 0] true] B))
 (Ide.bcase (((e.outs.length : Nat) : Int) == 12)
 (R (IEnd.ret (Value.tuple ⟨[Value.agg ⟨[Value.int IntKind.i64 0, Value.int IntKind.i64 0, Value.int IntKind.i64 0, Value.int IntKind.i64 0, Value.slice none 0 0, Value.int IntKind.i64 0, Value.slice none 0 0]⟩, Value.slice none 0 0, Value.int IntKind.i64 3]⟩)) (Ide.pad 64 [.cells [Value.int IntKind.i64 e.life, Value.int IntKind.i64 e.peer, Value.int IntKind.i64 e.phase, Value.int IntKind.i64 e.base, Value.slice (some ⟨(i + 64), 0, some 4⟩) e.outs.length e.outs.length, Value.int IntKind.i64 e.want, Value.slice (some ⟨(j + 64), 0, some 4⟩) e.ins.length e.ins.length] true, .cells [Value.int IntKind.i64 0, Value.int IntKind.i64 0, Value.int IntKind.i64 0, Value.int IntKind.i64 0, Value.slice none 0 0, Value.int IntKind.i64 0, Value.slice none 0 0] true] B))
 (Ide.bcase ((IntKind.wrap .i64 (e.base + ((e.outs.length : Nat) : Int))) == 1000000000)
 (R (IEnd.ret (Value.tuple ⟨[Value.agg ⟨[Value.int IntKind.i64 0, Value.int IntKind.i64 0, Value.int IntKind.i64 0, Value.int IntKind.i64 0, Value.slice none 0 0, Value.int IntKind.i64 0, Value.slice none 0 0]⟩, Value.slice none 0 0, Value.int IntKind.i64 3]⟩)) (Ide.pad 64 [.cells [Value.int IntKind.i64 e.life, Value.int IntKind.i64 e.peer, Value.int IntKind.i64 e.phase, Value.int IntKind.i64 e.base, Value.slice (some ⟨(i + 64), 0, some 4⟩) e.outs.length e.outs.length, Value.int IntKind.i64 e.want, Value.slice (some ⟨(j + 64), 0, some 4⟩) e.ins.length e.ins.length] true, .cells [Value.int IntKind.i64 0, Value.int IntKind.i64 0, Value.int IntKind.i64 0, Value.int IntKind.i64 0, Value.slice none 0 0, Value.int IntKind.i64 0, Value.slice none 0 0] true] B))
 (([Value.agg ⟨[Value.int IntKind.i64 e.life, Value.int IntKind.i64 e.peer, Value.int IntKind.i64 e.phase, Value.int IntKind.i64 e.base, Value.slice (some ⟨(i + 64), 0, some 4⟩) e.outs.length e.outs.length, Value.int IntKind.i64 e.want, Value.slice (some ⟨(j + 64), 0, some 4⟩) e.ins.length e.ins.length]⟩] : List Value) = [endP e (i + 64) (j + 64)] ∧ HasP e (i + 64) (j + 64) r1 r2 (Ide.pad 64 [.cells [Value.int IntKind.i64 e.life, Value.int IntKind.i64 e.peer, Value.int IntKind.i64 e.phase, Value.int IntKind.i64 e.base, Value.slice (some ⟨(i + 64), 0, some 4⟩) e.outs.length e.outs.length, Value.int IntKind.i64 e.want, Value.slice (some ⟨(j + 64), 0, some 4⟩) e.ins.length e.ins.length] true, .cells [Value.int IntKind.i64 0, Value.int IntKind.i64 0, Value.int IntKind.i64 0, Value.int IntKind.i64 0, Value.slice none 0 0, Value.int IntKind.i64 0, Value.slice none 0 0] true] B) ∧ ∀ (es1 : List MapEntry) (c2 : Nat), Look es1 (insF e.ins) → (([Value.pointer (some ⟨((List.length B) + 64), 0, none⟩)] : List Value) = ([Value.pointer (some ⟨((List.length B) + 64), 0, none⟩)] : List Value) ∧ (XAt e (insF e.ins) (List.length B + 64) (List.length B + 1 + 64) (j + 64) (List.length B + 2 + 64) true (Ide.pad 64 [.cells [Value.int IntKind.i64 e.life, Value.int IntKind.i64 e.peer, Value.int IntKind.i64 e.phase, Value.int IntKind.i64 e.base, Value.slice (some ⟨(i + 64), 0, some 4⟩) e.outs.length e.outs.length, Value.int IntKind.i64 e.want, Value.slice (some ⟨(j + 64), 0, some 4⟩) e.ins.length e.ins.length] true, .cells [Value.int IntKind.i64 0, Value.int IntKind.i64 0, Value.int IntKind.i64 0, Value.int IntKind.i64 0, Value.slice none 0 0, Value.int IntKind.i64 0, Value.slice none 0 0] true] (B ++ [.cells (xw e (List.length B + 64 + 1) (j + 64) (List.length B + 64 + 2)) true, .cells (outC e.outs) true, .map es1 c2]))) ∧ (Ide.cellAt (B ++ [.cells (xw e (List.length B + 64 + 1) (j + 64) (List.length B + 64 + 2)) true, .cells (outC e.outs) true, .map es1 c2]) (List.length B) 4 = some (Value.slice (some ⟨((List.length B + 1) + 64), 0, some 4⟩) e.outs.length e.outs.length) ∧ (((e.outs.length + 1) * 24 ≤ 70368744177664 ∧ e.outs.length + 1 ≤ 70368744177664) ∧ (∃ cs3 : List Value, Ide.cellsAt (B ++ [.cells (xw e (List.length B + 64 + 1) (j + 64) (List.length B + 64 + 2)) true, .cells (outC e.outs) true, .map es1 c2]) (List.length B + 1) 0 (e.outs.length * 2) = some cs3 ∧ (0 + 1 * 2 ≤ List.length ([Value.string text, Value.bool false] : List Value) ∧ ((2 = 2 ∧ true = true) ∧ e.outs.length < (e.outs.length + 1) ∧ (∃ cs : List Value, (B ++ [.cells (xw e (List.length B + 64 + 1) (j + 64) (List.length B + 64 + 2)) true, .cells (outC e.outs) true, .map es1 c2] : IHeap)[List.length B + 1]? = some (.cells cs true)) ∧ (∃ cs4 : List Value, (List.set (B ++ [.cells (xw e (List.length B + 64 + 1) (j + 64) (List.length B + 64 + 2)) true, .cells (outC e.outs) true, .map es1 c2]) (List.length B + 1) (.dead) : IHeap)[List.length B]? = some (.cells cs4 true) ∧ 4 + 1 ≤ List.length cs4 ∧ (([Value.pointer (some ⟨((List.length B) + 64), 0, none⟩)] : List Value) = [Value.pointer (some ⟨((List.length B) + 64), 0, none⟩)] ∧ (XAt (more e text) (insF e.ins) (List.length B + 64) 3 (j + 64) (List.length B + 2 + 64) true (Ide.pad 64 [.cells [Value.int IntKind.i64 e.life, Value.int IntKind.i64 e.peer, Value.int IntKind.i64 e.phase, Value.int IntKind.i64 e.base, Value.slice (some ⟨(i + 64), 0, some 4⟩) e.outs.length e.outs.length, Value.int IntKind.i64 e.want, Value.slice (some ⟨(j + 64), 0, some 4⟩) e.ins.length e.ins.length] true, .cells [Value.int IntKind.i64 0, Value.int IntKind.i64 0, Value.int IntKind.i64 0, Value.int IntKind.i64 0, Value.slice none 0 0, Value.int IntKind.i64 0, Value.slice none 0 0] true, .cells [Value.string text, Value.bool false] true, .cells ((cs3 : List Value) ++ [Value.string text, Value.bool false]) true] (List.set (List.set (B ++ [.cells (xw e (List.length B + 64 + 1) (j + 64) (List.length B + 64 + 2)) true, .cells (outC e.outs) true, .map es1 c2]) (List.length B + 1) (.dead)) (List.length B) (.cells (Ide.splice cs4 4 [Value.slice (some ⟨3, 0, some 4⟩) (e.outs.length + 1) (e.outs.length + 1)]) true))) ∧ List.length (Ide.pad 64 [.cells [Value.int IntKind.i64 e.life, Value.int IntKind.i64 e.peer, Value.int IntKind.i64 e.phase, Value.int IntKind.i64 e.base, Value.slice (some ⟨(i + 64), 0, some 4⟩) e.outs.length e.outs.length, Value.int IntKind.i64 e.want, Value.slice (some ⟨(j + 64), 0, some 4⟩) e.ins.length e.ins.length] true, .cells [Value.int IntKind.i64 0, Value.int IntKind.i64 0, Value.int IntKind.i64 0, Value.int IntKind.i64 0, Value.slice none 0 0, Value.int IntKind.i64 0, Value.slice none 0 0] true, .cells [Value.string text, Value.bool false] true, .cells ((cs3 : List Value) ++ [Value.string text, Value.bool false]) true] (List.set (List.set (B ++ [.cells (xw e (List.length B + 64 + 1) (j + 64) (List.length B + 64 + 2)) true, .cells (outC e.outs) true, .map es1 c2]) (List.length B + 1) (.dead)) (List.length B) (.cells (Ide.splice cs4 4 [Value.slice (some ⟨3, 0, some 4⟩) (e.outs.length + 1) (e.outs.length + 1)]) true))) = List.length B + 3 + 64) ∧ (([Value.pointer (some ⟨((List.length B) + 64), 0, none⟩), Value.int IntKind.i64 (((flyS e).toNat : Nat) : Int)] : List Value) = ([Value.pointer (some ⟨((List.length B) + 64), 0, none⟩), Value.int IntKind.i64 (((flyS e).toNat : Nat) : Int)] : List Value) ∧ ((XAt (ssE e text) (insF e.ins) (List.length B + 64) 3 (List.length B + 3 + 64) (List.length B + 2 + 64) true (Ide.pad 64 [.cells [Value.int IntKind.i64 e.life, Value.int IntKind.i64 e.peer, Value.int IntKind.i64 e.phase, Value.int IntKind.i64 e.base, Value.slice (some ⟨(i + 64), 0, some 4⟩) e.outs.length e.outs.length, Value.int IntKind.i64 e.want, Value.slice (some ⟨(j + 64), 0, some 4⟩) e.ins.length e.ins.length] true, .cells [Value.int IntKind.i64 0, Value.int IntKind.i64 0, Value.int IntKind.i64 0, Value.int IntKind.i64 0, Value.slice none 0 0, Value.int IntKind.i64 0, Value.slice none 0 0] true, .cells [Value.string text, Value.bool false] true, .cells ((cs3 : List Value) ++ [Value.string text, Value.bool false]) true] ((List.set (List.set (List.set (B ++ [.cells (xw e (List.length B + 64 + 1) (j + 64) (List.length B + 64 + 2)) true, .cells (outC e.outs) true, .map es1 c2]) (List.length B + 1) (.dead)) (List.length B) (.cells (Ide.splice cs4 4 [Value.slice (some ⟨3, 0, some 4⟩) (e.outs.length + 1) (e.outs.length + 1)]) true)) (List.length B) (.cells (xw (shutE (more e text) (insF e.ins)) 3 (List.length B + 3 + 64) (List.length B + 2 + 64)) true)) ++ [.cells (inC (shutE (more e text) (insF e.ins)).ins) true]))) ∧ List.length (Ide.pad 64 [.cells [Value.int IntKind.i64 e.life, Value.int IntKind.i64 e.peer, Value.int IntKind.i64 e.phase, Value.int IntKind.i64 e.base, Value.slice (some ⟨(i + 64), 0, some 4⟩) e.outs.length e.outs.length, Value.int IntKind.i64 e.want, Value.slice (some ⟨(j + 64), 0, some 4⟩) e.ins.length e.ins.length] true, .cells [Value.int IntKind.i64 0, Value.int IntKind.i64 0, Value.int IntKind.i64 0, Value.int IntKind.i64 0, Value.slice none 0 0, Value.int IntKind.i64 0, Value.slice none 0 0] true, .cells [Value.string text, Value.bool false] true, .cells ((cs3 : List Value) ++ [Value.string text, Value.bool false]) true] ((List.set (List.set (List.set (B ++ [.cells (xw e (List.length B + 64 + 1) (j + 64) (List.length B + 64 + 2)) true, .cells (outC e.outs) true, .map es1 c2]) (List.length B + 1) (.dead)) (List.length B) (.cells (Ide.splice cs4 4 [Value.slice (some ⟨3, 0, some 4⟩) (e.outs.length + 1) (e.outs.length + 1)]) true)) (List.length B) (.cells (xw (shutE (more e text) (insF e.ins)) 3 (List.length B + 3 + 64) (List.length B + 2 + 64)) true)) ++ [.cells (inC (shutE (more e text) (insF e.ins)).ins) true])) = (List.length B + 4) + 64) ∧ (R (IEnd.ret (Value.tuple ⟨[Value.agg ⟨[Value.int IntKind.i64 e.life, Value.int IntKind.i64 e.peer, Value.int IntKind.i64 e.phase, Value.int IntKind.i64 e.base, Value.slice (some ⟨3, 0, some 4⟩) ((e.outs ++ [(text, false)]).length) ((e.outs ++ [(text, false)]).length), Value.int IntKind.i64 e.want, Value.slice (some ⟨((List.length B + 3) + 64), 0, some 4⟩) ((shutE (more e text) (insF e.ins)).ins.length) ((shutE (more e text) (insF e.ins)).ins.length)]⟩, pksV (ssP e text) (List.length B + 4 + 64), Value.int IntKind.i64 0]⟩)) (Ide.pad 64 [.cells [Value.int IntKind.i64 e.life, Value.int IntKind.i64 e.peer, Value.int IntKind.i64 e.phase, Value.int IntKind.i64 e.base, Value.slice (some ⟨(i + 64), 0, some 4⟩) e.outs.length e.outs.length, Value.int IntKind.i64 e.want, Value.slice (some ⟨(j + 64), 0, some 4⟩) e.ins.length e.ins.length] true, .cells [Value.int IntKind.i64 e.life, Value.int IntKind.i64 e.peer, Value.int IntKind.i64 e.phase, Value.int IntKind.i64 e.base, Value.slice (some ⟨3, 0, some 4⟩) ((e.outs ++ [(text, false)]).length) ((e.outs ++ [(text, false)]).length), Value.int IntKind.i64 e.want, Value.slice (some ⟨((List.length B + 3) + 64), 0, some 4⟩) ((shutE (more e text) (insF e.ins)).ins.length) ((shutE (more e text) (insF e.ins)).ins.length)] true, .cells [Value.string text, Value.bool false] true, .cells ((cs3 : List Value) ++ [Value.string text, Value.bool false]) true] (((List.set (List.set (List.set (B ++ [.cells (xw e (List.length B + 64 + 1) (j + 64) (List.length B + 64 + 2)) true, .cells (outC e.outs) true, .map es1 c2]) (List.length B + 1) (.dead)) (List.length B) (.cells (Ide.splice cs4 4 [Value.slice (some ⟨3, 0, some 4⟩) (e.outs.length + 1) (e.outs.length + 1)]) true)) (List.length B) (.cells (xw (shutE (more e text) (insF e.ins)) 3 (List.length B + 3 + 64) (List.length B + 2 + 64)) true)) ++ [.cells (inC (shutE (more e text) (insF e.ins)).ins) true]) ++ [.cells (pksC (ssP e text)) true]))))))))))))))))))) (by kernel_rfl) ?_
  refine ⟨rfl, gH _, bcI (fun hg => err _ 2 ?_ (by decide)) fun hg => bcI (fun h1 => err _ 3 ?_ (by decide)) fun h1 => bcI (fun h2 => err _ 3 ?_ (by decide)) fun h2 => bcI (fun h3 => err _ 3 ?_ (by decide)) fun h3 => ?_⟩
  · unfold sendE; simp at hg; simp [hg]
  · unfold sendE; simp at hg h1; simp [hg, h1]
  · unfold sendE; simp at hg h2; simp [hg, h2]
  · unfold sendE; simp at hg h3; simp [hg, h3]
  have he : sendE e (fineS e) text = 0 := by unfold sendE; simp at hg h1 h2 h3; simp [hg, h1, h2, h3]
  have hc : outC e.outs ++ [Value.string text, Value.bool false] = outC (more e text).outs := by rw [more, outC_append]; rfl
  refine ⟨rfl, gH _, fun es c L => ?_⟩
  have b1 : ∀ X O M Y : IObj, List.set (List.set (B ++ [X, O, M]) (B.length + 1) .dead) B.length Y = B ++ [Y, .dead, M] := fun X O M Y => by rw [set_app, set_app0]; rfl
  have b2 : ∀ Y D M Z : IObj, List.set (B ++ [Y, D, M]) B.length Z = B ++ [Z, D, M] := fun Y D M Z => by rw [set_app0]; rfl
  have hsp : Ide.splice (xw e (B.length + 64 + 1) (j + 64) (B.length + 64 + 2)) 4 [.slice (some ⟨3, 0, some 4⟩) (e.outs.length + 1) (e.outs.length + 1)] = xw (more e text) 3 (j + 64) (B.length + 2 + 64) := by
    simp [Ide.splice, xw, endW64, more]
  refine ⟨rfl, ⟨by rw [pad_high, get_app0]; rfl, by rw [pad_high, get_app]; rfl, es, c, by rw [pad_high, get_app]; rfl, L⟩, cellAt_of (get_app0 _ _) rfl, ⟨by omega, by omega⟩, outC e.outs, cellsAt_outC (get_app _ _ 1), Nat.le_refl _, ⟨rfl, rfl⟩, by omega, ⟨_, get_app _ _ 1⟩,
    _, by rw [set_app, get_app0]; rfl, by simp [xw, endW64], ?_⟩
  rw [hsp, hc]
  rw [b1, b2]
  refine ⟨rfl, ⟨⟨by rw [pad_high, get_app0]; rfl, rfl, es, c, by rw [pad_high, get_app]; rfl, L⟩, by rw [pad_len]; simp; omega⟩, rfl, ⟨⟨by rw [pad_high, List.append_assoc, get_app0]; rfl, rfl, es, c, by rw [pad_high, List.append_assoc, get_app]; rfl, L⟩, by rw [pad_len]; simp; omega⟩, ?_⟩
  rw [List.append_assoc, List.append_assoc]
  have hBl' : (H.map (mvO shU)).length = H.length := by simp
  rw [hR, hB, hBl']
  refine slot_ext _ (.tuple ⟨[endP (ssE e text) (H.length + 5) (H.length + 3), pksV (ssP e text) (H.length + 4), .int .i64 0]⟩) [3]
    [.cells (xw (ssE e text) 3 (H.length + 3 + 64) (H.length + 2 + 64)) true, .dead, .map es c, .cells (inC (ssE e text).ins) true, .cells (pksC (ssP e text)) true]
    [.cells (xw (ssE e text) (H.length + 5) (H.length + 3) (H.length + 2)) true, .dead, .map es c, .cells (inC (ssE e text).ins) true, .cells (pksC (ssP e text)) true]
    [.cells (outC (more e text).outs) true] (by decide) rfl ⟨?_, .inl rfl, LessO.plain (look_plain L c), LessO.plain (ground_inC _), LessO.plain (ground_pksC _), trivial⟩ (newsAt_plain (by rfl) (ground_outC _) trivial) ?_ ?_
  · refine LessO.same' ?_
    show IObj.cells (mvV.goL (unS [3] (H.length + 5)) (xw (ssE e text) 3 (H.length + 3 + 64) (H.length + 2 + 64))) true = _
    rw [mv_xw (σ := unS [3] (H.length + 5)) (e := ssE e text) (i := 3) (i' := H.length + 5) (j := H.length + 3 + 64) (j' := H.length + 3) (m := H.length + 2 + 64) (m' := H.length + 2) rfl (unS_sh _ _ _) (unS_sh _ _ _)]
  · refine Less.same ?_
    rw [show (e.outs ++ [(text, false)]).length = (ssE e text).outs.length from rfl]
    simp only [mvV, mvV.go, mvV.goL, pksV, unS_sh]
    rfl
  · unfold SSendR
    rw [if_pos he]
    exact ⟨_, _, _, _, rfl, rfl, by simp; rfl, by simp, by simp, by omega, by omega, by omega⟩

end
end Go.Proofs.Ytoikiogaiikheaa.Sess
