/- The packets of some messages. -/
import Derived.Test.YtoikiogaiikheaaSndAV
set_option linter.unusedSectionVars false
set_option linter.unusedVariables false
set_option linter.unusedSimpArgs false
set_option maxRecDepth 10000
namespace Go.Proofs.Ytoikiogaiikheaa.Sess
open Go Go.RowKit Ide Go.Proofs

def intsC (l : List Int) : List Value := l.map fun n => .int .i64 n
theorem intsC_len (l : List Int) : (intsC l).length = l.length := List.length_map _
theorem intsC_all (l : List Int) : List.take (l.length * 1) (List.drop 0 (intsC l)) = intsC l := by rw [List.drop_zero, Nat.mul_one, ← intsC_len, List.take_length]
theorem ground_intsC : ∀ l : List Int, ground.groundL (intsC l) = true
  | [] => rfl
  | x :: l => by show (true && ground.groundL (intsC l)) = true; rw [ground_intsC l]; rfl
def intsV (l : List Int) (k : Nat) : Value := .slice (some ⟨k, 0, some 2⟩) l.length l.length
def dataV (k : Nat) : Value := .func (.func 48) ⟨[.pointer (some ⟨k, 0, none⟩)]⟩ ⟨[]⟩
def eachP (f : Int → Option ByteArray) (e : SE) (ns : List Int) : List Pkt := ns.map fun n => dataX f e n (textAt e.outs n)

noncomputable def A47 : List Code := (sp 47).take 3
noncomputable def C47 : List Code := (sp 47).drop 4
noncomputable def L47 : Code := loopOf (sp 47) 3
theorem sp47 : Ide.spine (bodyOf Pr 47) [] = A47 ++ .block 0 (.loop L47) :: C47 := by kernel_rfl

section
variable {e : SE} {f : Int → Option ByteArray} {k i j m : Nat} {po : List (ByteArray × Bool)} {r : Bool} {H : IHeap}

def scEach (e : SE) (f : Int → Option ByteArray) (k i : Nat) (po : List (ByteArray × Bool)) (j m : Nat) (r : Bool) : SCall :=
  scC 48 (cI (.pointer (some ⟨k + 64, 0, none⟩)) (fun n H => (0 ≤ n ∧ n < ((e.outs.length : Nat) : Int)) ∧ XAt e f (k + 64) (i + 64) po (j + 64) (m + 64) r H) (fun n => pktV (dataX f e n (textAt e.outs n)))) sc0
theorem scEach_ok : SOk Pr (scEach e f k i po j m r) := scC_ok (cI_ok fun n H h => xdata_ok h.1 h.2) sc0_ok

theorem each_l {rt : Root} {B : IHeap} {a : Nat} {ns : List Int} {ra : Bool} (hB : B = H.map (mvO shU)) (hm : rt.m = 64 + H.length) (ga : B[a]? = some (.cells (intsC ns) ra)) (gX : ∀ l, XAt e f (k + 64) (i + 64) po (j + 64) (m + 64) r (pad 64 l B))
    (hn : ∀ n ∈ ns, 0 ≤ n ∧ n < e.outs.length) (hlen : ns.length ≤ 1000) (Qb : IExit → Env → IHeap → Prop) : ∀ (post pre : List Int), ns = pre ++ post →
    (Qb (.exit 0) [(1, dataV (k + 64)), (5, pksV (eachP f e ns) 0), (8, intsV ns (a + 64)), (9, .int .i64 ((ns.length : Nat) : Int)), (10, .int .i64 ((ns.length : Nat) : Int))] (pad 64 [.cells (pksC (eachP f e ns)) true] B)) →
    LWQ rt none Pr 22 L47 Qb [(1, dataV (k + 64)), (5, pksV (eachP f e pre) 0), (8, intsV ns (a + 64)), (9, .int .i64 ((ns.length : Nat) : Int)), (10, .int .i64 ((pre.length : Nat) : Int))] (pad 64 [.cells (pksC (eachP f e pre)) true] B) := by
  intro post
  induction post with
  | nil =>
    intro pre hp hx
    refine lwq_round (hs := []) (sc := scEach e f k i po j m r) (rf := true) mixed scEach_ok 40 [1, 5, 8, 9, 10] (by kernel_rfl) ?_
    refine Eq.mp (α := (Ide.bcase (decide (((pre.length : Nat) : Int) < ((ns.length : Nat) : Int)))
 (0 ≤ ((pre.length : Nat) : Int) ∧ ((pre.length : Nat) : Int) < ((ns.length : Nat) : Int) ∧ (∃ n1 : Int, Ide.cellAt B a (0 + Int.toNat ((pre.length : Nat) : Int) * 1) = some (Value.int IntKind.i64 n1) ∧ ((Value.pointer (some ⟨(k + 64), 0, none⟩) = Value.pointer (some ⟨(k + 64), 0, none⟩) ∧ IntKind.i64 = IntKind.i64) ∧ ((0 ≤ n1 ∧ n1 < ((e.outs.length : Nat) : Int)) ∧ XAt e f (k + 64) (i + 64) po (j + 64) (m + 64) r (Ide.pad 64 [.cells (pksC (eachP f e pre)) true] B)) ∧ (((((eachP f e pre).length) + 1) * 64 ≤ 70368744177664 ∧ ((eachP f e pre).length) + 1 ≤ 70368744177664) ∧ (0 + ((eachP f e pre).length) * 7 ≤ List.length ((pksC (eachP f e pre)) : List Value) ∧ (0 + 1 * 7 ≤ List.length ([Value.int IntKind.i64 ((dataX f e n1 (textAt e.outs n1)).kind), Value.int IntKind.i64 ((dataX f e n1 (textAt e.outs n1)).src), Value.int IntKind.i64 ((dataX f e n1 (textAt e.outs n1)).dst), Value.int IntKind.i64 ((dataX f e n1 (textAt e.outs n1)).num), Value.string (dataX f e n1 (textAt e.outs n1)).text, Value.int IntKind.i64 ((dataX f e n1 (textAt e.outs n1)).ack), Value.int IntKind.i64 ((dataX f e n1 (textAt e.outs n1)).held)] : List Value) ∧ ((7 = 7 ∧ true = true) ∧ ((eachP f e pre).length) < (((eachP f e pre).length) + 1) ∧ (LWQ rt none Pr 22 L47 Qb [(1, Value.func (Fn.func 48) ⟨[Value.pointer (some ⟨(k + 64), 0, none⟩)]⟩ ⟨[]⟩), (5, Value.slice (some ⟨2, 0, some 14⟩) (((eachP f e pre).length) + 1) (((eachP f e pre).length) + 1)), (8, intsV ns (a + 64)), (9, Value.int IntKind.i64 ((ns.length : Nat) : Int)), (10, Value.int IntKind.i64 (IntKind.wrap .i64 (((pre.length : Nat) : Int) + 1)))] (Ide.pad 64 [.dead, .cells [Value.int IntKind.i64 ((dataX f e n1 (textAt e.outs n1)).kind), Value.int IntKind.i64 ((dataX f e n1 (textAt e.outs n1)).src), Value.int IntKind.i64 ((dataX f e n1 (textAt e.outs n1)).dst), Value.int IntKind.i64 ((dataX f e n1 (textAt e.outs n1)).num), Value.string (dataX f e n1 (textAt e.outs n1)).text, Value.int IntKind.i64 ((dataX f e n1 (textAt e.outs n1)).ack), Value.int IntKind.i64 ((dataX f e n1 (textAt e.outs n1)).held)] true, .cells ((List.take (((eachP f e pre).length) * 7) (List.drop 0 (pksC (eachP f e pre))) : List Value) ++ [Value.int IntKind.i64 ((dataX f e n1 (textAt e.outs n1)).kind), Value.int IntKind.i64 ((dataX f e n1 (textAt e.outs n1)).src), Value.int IntKind.i64 ((dataX f e n1 (textAt e.outs n1)).dst), Value.int IntKind.i64 ((dataX f e n1 (textAt e.outs n1)).num), Value.string (dataX f e n1 (textAt e.outs n1)).text, Value.int IntKind.i64 ((dataX f e n1 (textAt e.outs n1)).ack), Value.int IntKind.i64 ((dataX f e n1 (textAt e.outs n1)).held)]) true] B)))))))))
 (Qb (.exit 0) [(1, Value.func (Fn.func 48) ⟨[Value.pointer (some ⟨(k + 64), 0, none⟩)]⟩ ⟨[]⟩), (5, pksV (eachP f e pre) 0), (8, intsV ns (a + 64)), (9, Value.int IntKind.i64 ((ns.length : Nat) : Int)), (10, Value.int IntKind.i64 ((pre.length : Nat) : Int))] (Ide.pad 64 [.cells (pksC (eachP f e pre)) true] B)))) (by kernel_rfl) ?_
    rw [List.append_nil] at hp
    subst hp
    exact bcI (fun h => by exfalso; simp at h) fun h => hx
  | cons n post ih =>
    intro pre hp hx
    refine lwq_round (hs := []) (sc := scEach e f k i po j m r) (rf := true) mixed scEach_ok 40 [1, 5, 8, 9, 10] (by kernel_rfl) ?_
    refine Eq.mp (α := (Ide.bcase (decide (((pre.length : Nat) : Int) < ((ns.length : Nat) : Int)))
 (0 ≤ ((pre.length : Nat) : Int) ∧ ((pre.length : Nat) : Int) < ((ns.length : Nat) : Int) ∧ (∃ n1 : Int, Ide.cellAt B a (0 + Int.toNat ((pre.length : Nat) : Int) * 1) = some (Value.int IntKind.i64 n1) ∧ ((Value.pointer (some ⟨(k + 64), 0, none⟩) = Value.pointer (some ⟨(k + 64), 0, none⟩) ∧ IntKind.i64 = IntKind.i64) ∧ ((0 ≤ n1 ∧ n1 < ((e.outs.length : Nat) : Int)) ∧ XAt e f (k + 64) (i + 64) po (j + 64) (m + 64) r (Ide.pad 64 [.cells (pksC (eachP f e pre)) true] B)) ∧ (((((eachP f e pre).length) + 1) * 64 ≤ 70368744177664 ∧ ((eachP f e pre).length) + 1 ≤ 70368744177664) ∧ (0 + ((eachP f e pre).length) * 7 ≤ List.length ((pksC (eachP f e pre)) : List Value) ∧ (0 + 1 * 7 ≤ List.length ([Value.int IntKind.i64 ((dataX f e n1 (textAt e.outs n1)).kind), Value.int IntKind.i64 ((dataX f e n1 (textAt e.outs n1)).src), Value.int IntKind.i64 ((dataX f e n1 (textAt e.outs n1)).dst), Value.int IntKind.i64 ((dataX f e n1 (textAt e.outs n1)).num), Value.string (dataX f e n1 (textAt e.outs n1)).text, Value.int IntKind.i64 ((dataX f e n1 (textAt e.outs n1)).ack), Value.int IntKind.i64 ((dataX f e n1 (textAt e.outs n1)).held)] : List Value) ∧ ((7 = 7 ∧ true = true) ∧ ((eachP f e pre).length) < (((eachP f e pre).length) + 1) ∧ (LWQ rt none Pr 22 L47 Qb [(1, Value.func (Fn.func 48) ⟨[Value.pointer (some ⟨(k + 64), 0, none⟩)]⟩ ⟨[]⟩), (5, Value.slice (some ⟨2, 0, some 14⟩) (((eachP f e pre).length) + 1) (((eachP f e pre).length) + 1)), (8, intsV ns (a + 64)), (9, Value.int IntKind.i64 ((ns.length : Nat) : Int)), (10, Value.int IntKind.i64 (IntKind.wrap .i64 (((pre.length : Nat) : Int) + 1)))] (Ide.pad 64 [.dead, .cells [Value.int IntKind.i64 ((dataX f e n1 (textAt e.outs n1)).kind), Value.int IntKind.i64 ((dataX f e n1 (textAt e.outs n1)).src), Value.int IntKind.i64 ((dataX f e n1 (textAt e.outs n1)).dst), Value.int IntKind.i64 ((dataX f e n1 (textAt e.outs n1)).num), Value.string (dataX f e n1 (textAt e.outs n1)).text, Value.int IntKind.i64 ((dataX f e n1 (textAt e.outs n1)).ack), Value.int IntKind.i64 ((dataX f e n1 (textAt e.outs n1)).held)] true, .cells ((List.take (((eachP f e pre).length) * 7) (List.drop 0 (pksC (eachP f e pre))) : List Value) ++ [Value.int IntKind.i64 ((dataX f e n1 (textAt e.outs n1)).kind), Value.int IntKind.i64 ((dataX f e n1 (textAt e.outs n1)).src), Value.int IntKind.i64 ((dataX f e n1 (textAt e.outs n1)).dst), Value.int IntKind.i64 ((dataX f e n1 (textAt e.outs n1)).num), Value.string (dataX f e n1 (textAt e.outs n1)).text, Value.int IntKind.i64 ((dataX f e n1 (textAt e.outs n1)).ack), Value.int IntKind.i64 ((dataX f e n1 (textAt e.outs n1)).held)]) true] B)))))))))
 (Qb (.exit 0) [(1, Value.func (Fn.func 48) ⟨[Value.pointer (some ⟨(k + 64), 0, none⟩)]⟩ ⟨[]⟩), (5, pksV (eachP f e pre) 0), (8, intsV ns (a + 64)), (9, Value.int IntKind.i64 ((ns.length : Nat) : Int)), (10, Value.int IntKind.i64 ((pre.length : Nat) : Int))] (Ide.pad 64 [.cells (pksC (eachP f e pre)) true] B)))) (by kernel_rfl) ?_
    have hl : ns.length = pre.length + post.length + 1 := by rw [hp]; simp; omega
    have hw : IntKind.wrap .i64 (((pre.length : Nat) : Int) + 1) = (((pre ++ [n]).length : Nat) : Int) := by rw [wrap_i64 (by omega) (by omega)]; simp
    have hcell : cellAt B a (0 + Int.toNat ((pre.length : Nat) : Int) * 1) = some (.int .i64 n) := by
      refine cellAt_of ga ?_
      unfold intsC
      rw [hp, show 0 + Int.toNat ((pre.length : Nat) : Int) * 1 = pre.length by simp]
      simp
    have hb := hn n (by rw [hp]; simp)
    have el : (eachP f e pre).length = pre.length := by simp [eachP]
    refine bcI (fun h => ⟨by omega, by omega, n, hcell, ⟨rfl, rfl⟩, ⟨hb, gX _⟩, ⟨by omega, by omega⟩, by rw [pksC_len]; omega, Nat.le_refl _, ⟨rfl, rfl⟩, by omega, ?_⟩) fun h => by exfalso; simp at h; omega
    rw [pksC_all, hw]
    refine LWQ.move (Move.own hB hm (mp := [(2, 0)]) (l2 := [.cells (pksC (eachP f e (pre ++ [n]))) true]) rfl ⟨.inr (LessO.plainEq (by unfold eachP; rw [List.map_append, pksC_app]; rfl) (ground_pksC _)), trivial⟩
      (env2 := [(1, dataV (k + 64)), (5, pksV (eachP f e (pre ++ [n])) 0), (8, intsV ns (a + 64)), (9, .int .i64 ((ns.length : Nat) : Int)), (10, .int .i64 (((pre ++ [n]).length : Nat) : Int))])
      ⟨⟨rfl, Less.same (by kernel_rfl)⟩, ⟨rfl, ?_⟩, ⟨rfl, Less.same (by kernel_rfl)⟩, ⟨rfl, Less.refl _⟩, ⟨rfl, Less.refl _⟩, trivial⟩) (ih (pre ++ [n]) (by rw [hp]; simp) hx)
    unfold pksV eachP
    rw [List.map_append, List.length_append]
    exact Less.same (by kernel_rfl)

theorem each_ok {a : Nat} {ns : List Int} {ra : Bool} (h : XAt e f k i po j m r H) (ha : H[a]? = some (.cells (intsC ns) ra)) (hn : ∀ n ∈ ns, 0 ≤ n ∧ n < e.outs.length) (hlen : ns.length ≤ 1000) :
    ICalls Pr 47 [intsV ns a, dataV k] H (fun r H' => r = .ret (pksV (eachP f e ns) H.length) ∧ H' = H ++ [.cells (pksC (eachP f e ns)) true]) := by
  refine icalls_spine (by kernel_rfl) fun rt hm => ?_
  obtain ⟨R, hR⟩ : ∃ R, R = slotR H.length (fun r H' => r = .ret (pksV (eachP f e ns) H.length) ∧ H' = H ++ [.cells (pksC (eachP f e ns)) true]) := ⟨_, rfl⟩
  obtain ⟨B, hB⟩ : ∃ B, B = H.map (mvO shU) := ⟨_, rfl⟩
  obtain ⟨g1, g2, es, c, g3, L⟩ := h.base
  have ga : B[a]? = some (.cells (intsC ns) ra) := by rw [hB]; exact base_plain ha (ground_intsC _)
  rw [← hB] at g1 g2 g3
  rw [← hR, ← hB, sp47]
  refine iwrl_seg (hs := []) (sc := sc0) (rf := true) mixed sc0_ok 40 [1, 5, 8, 9, 10] A47 _ _ (by kernel_rfl) ?_
  refine Eq.mp (α := (IWRL rt none Pr 22 (.block 0 (.loop L47) :: C47) (bodyS Pr (ressOf Pr 47) R) [(1, Value.func (Fn.func 48) ⟨[Value.pointer (some ⟨(k + 64), 0, none⟩)]⟩ ⟨[]⟩), (5, Value.slice none 0 0), (8, intsV ns (a + 64)), (9, Value.int IntKind.i64 ((ns.length : Nat) : Int)), (10, Value.int IntKind.i64 0)] (Ide.pad 64 [] B))) (by kernel_rfl) ?_
  refine IWRL.move (by simp) (Move.own hB hm (mp := []) (l2 := [.cells (pksC (eachP f e [])) true]) rfl trivial
    (env2 := [(1, dataV (k + 64)), (5, pksV (eachP f e []) 0), (8, intsV ns (a + 64)), (9, .int .i64 ((ns.length : Nat) : Int)), (10, .int .i64 (((([] : List Int).length : Nat)) : Int))])
    ⟨⟨rfl, Less.same (by kernel_rfl)⟩, ⟨rfl, Less.nil _ _ _⟩, ⟨rfl, Less.same (by kernel_rfl)⟩, ⟨rfl, Less.refl _⟩, ⟨rfl, Less.refl _⟩, trivial⟩) ?_
  refine iwrl_loop (each_l hB hm ga (fun l => .of l g1 g2 g3 L) hn hlen _ ns [] rfl ?_)
  show IWRL rt none Pr 22 C47 (bodyS Pr (ressOf Pr 47) R) _ _
  refine iwrl_last (hs := []) (sc := sc0) (rf := true) mixed sc0_ok 40 C47 (by kernel_rfl) ?_
  refine Eq.mp (α := R (.ret (pksV (eachP f e ns) 0)) (pad 64 [.cells (pksC (eachP f e ns)) true] B)) (by kernel_rfl) ?_
  rw [hR, hB]
  exact slot_news _ (pksV (eachP f e ns) H.length) [0] [.cells (pksC (eachP f e ns)) true] (by decide) rfl (newsAt_plain rfl (ground_pksC _) trivial) (Less.same rfl) ⟨rfl, rfl⟩

/-! ### from -/
def upto (i : Int) : Nat → List Int
  | 0 => []
  | c + 1 => i :: upto (i + 1) c
theorem upto_len (i : Int) : ∀ c, (upto i c).length = c
  | 0 => rfl
  | c + 1 => congrArg (· + 1) (upto_len (i + 1) c)
theorem upto_mem {n : Int} : ∀ {c : Nat} {i : Int}, n ∈ upto i c → i ≤ n ∧ n < i + c
  | 0, i, h => by cases h
  | c + 1, i, h => by
    rcases List.mem_cons.1 h with rfl | h
    · omega
    · have := upto_mem h; omega

noncomputable def A45 : List Code := (sp 45).take 2
noncomputable def C45 : List Code := (sp 45).drop 3
noncomputable def L45 : Code := loopOf (sp 45) 2
theorem sp45 : Ide.spine (bodyOf Pr 45) [] = A45 ++ .block 0 (.loop L45) :: C45 := by kernel_rfl

def scFrom (e : SE) (f : Int → Option ByteArray) (k i : Nat) (po : List (ByteArray × Bool)) (j m : Nat) (r : Bool) (ns : List Int) (nB : Nat) : SCall :=
  scC 43 (cR [.pointer (some ⟨k + 64, 0, none⟩)] (XAt e f (k + 64) (i + 64) po (j + 64) (m + 64) r) (sentO e (i + 64) (2 * po.length)))
  (scC 47 (cN [intsV ns 0, dataV (k + 64)] (fun H => XAt e f (k + 64) (i + 64) po (j + 64) (m + 64) r H ∧ H[0]? = some (.cells (intsC ns) true)) (fun n => pksV (eachP f e ns) n) (fun _ => [.cells (pksC (eachP f e ns)) true])) sc0)
theorem scFrom_ok {ns : List Int} {nB : Nat} (hn : ∀ n ∈ ns, 0 ≤ n ∧ n < e.outs.length) (hlen : ns.length ≤ 1000) : SOk Pr (scFrom e f k i po j m r ns nB) :=
  scC_ok (cR_ok fun H h => xsent_ok h) (scC_ok (cN_ok fun H h => each_ok h.1 h.2 hn hlen) sc0_ok)

theorem fly_nn (e : SE) : 0 ≤ flyS e ∧ flyS e ≤ 4 ∧ flyS e ≤ ((e.outs.length : Nat) : Int) := by
  unfold flyS
  split
  · split <;> omega
  · omega

theorem from_l {rt : Root} {B : IHeap} (hB : B = H.map (mvO shU)) (hm : rt.m = 64 + H.length) (gX : ∀ l, XAt e f (k + 64) (i + 64) po (j + 64) (m + 64) r (pad 64 l B)) (Qb : IExit → Env → IHeap → Prop) :
    ∀ (c : Nat) (n : Int) (acc : List Int), 0 ≤ n → c = (flyS e - n).toNat → acc.length ≤ 4 - c → c ≤ 4 →
    (∀ z : Int, Qb (.exit 0) [(0, ptrTo (k + 64) 0), (1, .int .i64 z), (5, intsV (acc ++ upto n c) 0)] (pad 64 [.cells (intsC (acc ++ upto n c)) true] B)) →
    LWQ rt none Pr 21 L45 Qb [(0, ptrTo (k + 64) 0), (1, .int .i64 n), (5, intsV acc 0)] (pad 64 [.cells (intsC acc) true] B) := by
  have hf := fly_nn e
  have sok : SOk Pr (scC 43 (cR [.pointer (some ⟨k + 64, 0, none⟩)] (XAt e f (k + 64) (i + 64) po (j + 64) (m + 64) r) (sentO e (i + 64) (2 * po.length))) sc0) := scC_ok (cR_ok fun H h => xsent_ok h) sc0_ok
  intro c
  induction c with
  | zero =>
    intro n acc h0 hc ha h4 hx
    refine lwq_round (hs := []) (rf := true) mixed sok 40 [0, 1, 5] (by kernel_rfl) ?_
    refine Eq.mp (α := (([Value.pointer (some ⟨(k + 64), 0, none⟩)] : List Value) = ([Value.pointer (some ⟨(k + 64), 0, none⟩)] : List Value) ∧ (XAt e f (k + 64) (i + 64) po (j + 64) (m + 64) r (Ide.pad 64 [.cells (intsC acc) true] B)) ∧ (Ide.bcase (decide (n < (((flyS e).toNat : Nat) : Int)))
 (((acc.length + 1) * 8 ≤ 70368744177664 ∧ acc.length + 1 ≤ 70368744177664) ∧ (0 + acc.length * 1 ≤ List.length ((intsC acc) : List Value) ∧ (0 + 1 * 1 ≤ List.length ([Value.int IntKind.i64 n] : List Value) ∧ ((1 = 1 ∧ true = true) ∧ acc.length < (acc.length + 1) ∧ (LWQ rt none Pr 21 L45 Qb [(0, Value.pointer (some ⟨(k + 64), 0, none⟩)), (1, Value.int IntKind.i64 (IntKind.wrap .i64 (n + 1))), (5, Value.slice (some ⟨2, 0, some 2⟩) (acc.length + 1) (acc.length + 1))] (Ide.pad 64 [.dead, .cells [Value.int IntKind.i64 n] true, .cells ((List.take (acc.length * 1) (List.drop 0 (intsC acc)) : List Value) ++ [Value.int IntKind.i64 n]) true] B))))))
 (Qb (.exit 0) [(0, Value.pointer (some ⟨(k + 64), 0, none⟩)), (1, Value.int IntKind.i64 n), (5, Value.slice (some ⟨0, 0, some 2⟩) acc.length acc.length)] (Ide.pad 64 [.cells (intsC acc) true] B))))) (by kernel_rfl) ?_
    refine ⟨rfl, gX _, bcI (fun h => by exfalso; simp at h; omega) fun h => ?_⟩
    have := hx n
    simp only [upto, List.append_nil] at this
    exact this
  | succ c ih =>
    intro n acc h0 hc ha h4 hx
    refine lwq_round (hs := []) (rf := true) mixed sok 40 [0, 1, 5] (by kernel_rfl) ?_
    refine Eq.mp (α := (([Value.pointer (some ⟨(k + 64), 0, none⟩)] : List Value) = ([Value.pointer (some ⟨(k + 64), 0, none⟩)] : List Value) ∧ (XAt e f (k + 64) (i + 64) po (j + 64) (m + 64) r (Ide.pad 64 [.cells (intsC acc) true] B)) ∧ (Ide.bcase (decide (n < (((flyS e).toNat : Nat) : Int)))
 (((acc.length + 1) * 8 ≤ 70368744177664 ∧ acc.length + 1 ≤ 70368744177664) ∧ (0 + acc.length * 1 ≤ List.length ((intsC acc) : List Value) ∧ (0 + 1 * 1 ≤ List.length ([Value.int IntKind.i64 n] : List Value) ∧ ((1 = 1 ∧ true = true) ∧ acc.length < (acc.length + 1) ∧ (LWQ rt none Pr 21 L45 Qb [(0, Value.pointer (some ⟨(k + 64), 0, none⟩)), (1, Value.int IntKind.i64 (IntKind.wrap .i64 (n + 1))), (5, Value.slice (some ⟨2, 0, some 2⟩) (acc.length + 1) (acc.length + 1))] (Ide.pad 64 [.dead, .cells [Value.int IntKind.i64 n] true, .cells ((List.take (acc.length * 1) (List.drop 0 (intsC acc)) : List Value) ++ [Value.int IntKind.i64 n]) true] B))))))
 (Qb (.exit 0) [(0, Value.pointer (some ⟨(k + 64), 0, none⟩)), (1, Value.int IntKind.i64 n), (5, Value.slice (some ⟨0, 0, some 2⟩) acc.length acc.length)] (Ide.pad 64 [.cells (intsC acc) true] B))))) (by kernel_rfl) ?_
    have hw : IntKind.wrap .i64 (n + 1) = n + 1 := wrap_i64 (by omega) (by omega)
    refine ⟨rfl, gX _, bcI (fun h => ⟨⟨by omega, by omega⟩, by rw [intsC_len]; omega, Nat.le_refl _, ⟨rfl, rfl⟩, by omega, ?_⟩) fun h => by exfalso; simp at h; omega⟩
    rw [intsC_all, hw]
    have e1 : acc ++ upto n (c + 1) = (acc ++ [n]) ++ upto (n + 1) c := by simp [upto]
    refine LWQ.move (Move.own hB hm (mp := [(2, 0)]) (l2 := [.cells (intsC (acc ++ [n])) true]) rfl ⟨.inr (LessO.plainEq (by unfold intsC; rw [List.map_append]; rfl) (ground_intsC _)), trivial⟩
      (env2 := [(0, ptrTo (k + 64) 0), (1, .int .i64 (n + 1)), (5, intsV (acc ++ [n]) 0)])
      ⟨⟨rfl, Less.same (by kernel_rfl)⟩, ⟨rfl, Less.refl _⟩, ⟨rfl, ?_⟩, trivial⟩) (ih (n + 1) (acc ++ [n]) (by omega) (by omega) (by simp; omega) (by omega) (fun z => by rw [← e1]; exact hx z))
    unfold intsV
    rw [List.length_append]
    exact Less.same (by kernel_rfl)

/-- The sent messages from one on. -/
def fromN (e : SE) (n : Int) : List Int := upto n (flyS e - n).toNat

theorem from_ok {n : Int} (hn : 0 ≤ n) (h : XAt e f k i po j m r H) : ICalls Pr 45 [.pointer (some ⟨k, 0, none⟩), .int .i64 n] H (fun r H' => r = .ret (pksV (eachP f e (fromN e n)) H.length) ∧ H' = H ++ [.cells (pksC (eachP f e (fromN e n))) true]) := by
  refine icalls_spine (by kernel_rfl) fun rt hm => ?_
  obtain ⟨R, hR⟩ : ∃ R, R = slotR H.length (fun r H' => r = .ret (pksV (eachP f e (fromN e n)) H.length) ∧ H' = H ++ [.cells (pksC (eachP f e (fromN e n))) true]) := ⟨_, rfl⟩
  obtain ⟨B, hB⟩ : ∃ B, B = H.map (mvO shU) := ⟨_, rfl⟩
  obtain ⟨g1, g2, es, c, g3, L⟩ := h.base
  rw [← hB] at g1 g2 g3
  rw [← hR, ← hB, sp45]
  have gX : ∀ l, XAt e f (k + 64) (i + 64) po (j + 64) (m + 64) r (pad 64 l B) := fun l => .of l g1 g2 g3 L
  have hf := fly_nn e
  refine iwrl_seg (hs := []) (sc := sc0) (rf := true) mixed sc0_ok 40 [0, 1, 5] A45 _ _ (by kernel_rfl) ?_
  refine Eq.mp (α := (IWRL rt none Pr 21 (.block 0 (.loop L45) :: C45) (bodyS Pr (ressOf Pr 45) R) [(0, Value.pointer (some ⟨(k + 64), 0, none⟩)), (1, Value.int IntKind.i64 n), (5, Value.slice none 0 0)] (Ide.pad 64 [] B))) (by kernel_rfl) ?_
  refine IWRL.move (by simp) (Move.own hB hm (mp := []) (l2 := [.cells (intsC []) true]) rfl trivial
    (env2 := [(0, ptrTo (k + 64) 0), (1, .int .i64 n), (5, intsV [] 0)]) ⟨⟨rfl, Less.same (by kernel_rfl)⟩, ⟨rfl, Less.refl _⟩, ⟨rfl, Less.nil _ _ _⟩, trivial⟩) ?_
  refine iwrl_loop (from_l hB hm gX _ (flyS e - n).toNat n [] hn rfl (by simp) (by omega) fun z => ?_)
  obtain ⟨ns, hns⟩ : ∃ ns, ns = fromN e n := ⟨_, rfl⟩
  show IWRL rt none Pr 21 C45 (bodyS Pr (ressOf Pr 45) R) [(0, ptrTo (k + 64) 0), (1, .int .i64 z), (5, intsV (fromN e n) 0)] (pad 64 [.cells (intsC (fromN e n)) true] B)
  rw [← hns] at hR ⊢
  have hmem : ∀ x ∈ ns, 0 ≤ x ∧ x < e.outs.length := fun x hx => by
    rw [hns] at hx
    have := upto_mem hx
    omega
  have hlen : ns.length ≤ 1000 := by rw [hns]; unfold fromN; rw [upto_len]; omega
  refine iwrl_last (hs := []) (sc := scFrom e f k i po j m r ns 0) (rf := true) mixed (scFrom_ok hmem hlen) 40 C45 (by kernel_rfl) ?_
  refine Eq.mp (α := (([intsV ns 0, Value.func (Fn.func 48) ⟨[Value.pointer (some ⟨(k + 64), 0, none⟩)]⟩ ⟨[]⟩] : List Value) = ([intsV ns 0, Value.func (Fn.func 48) ⟨[Value.pointer (some ⟨(k + 64), 0, none⟩)]⟩ ⟨[]⟩] : List Value) ∧ (XAt e f (k + 64) (i + 64) po (j + 64) (m + 64) r (Ide.pad 64 [.cells (intsC ns) true] B) ∧ ((Ide.pad 64 [.cells (intsC ns) true] B) : IHeap)[0]? = some (.cells (intsC ns) true)) ∧ (R (IEnd.ret (pksV (eachP f e ns) (List.length B + 64))) (Ide.pad 64 [.cells (intsC ns) true] (B ++ [.cells (pksC (eachP f e ns)) true]))))) (by kernel_rfl) ?_
  refine ⟨rfl, ⟨gX _, rfl⟩, ?_⟩
  rw [hR, hB]
  refine slot_ext _ (pksV (eachP f e ns) H.length) [] [.cells (pksC (eachP f e ns)) true] [.cells (pksC (eachP f e ns)) true] [] (by simp) rfl ⟨LessO.plain (ground_pksC _), trivial⟩ trivial ?_ ⟨rfl, by simp⟩
  rw [List.length_map]
  refine Less.same ?_
  simp only [pksV, mvV, unS_sh]

end
end Go.Proofs.Ytoikiogaiikheaa.Sess

/- An end is closed again. -/
set_option linter.unusedVariables false
set_option linter.unusedSimpArgs false
set_option maxRecDepth 10000
namespace Go.Proofs.Ytoikiogaiikheaa.Sess
open Go Go.RowKit Ide Go.Proofs

/-- The messages that came early, by their numbers. -/
def numJ (want j : Int) : Int := IntKind.wrap .i64 (IntKind.wrap .i64 (want + 1) + j)
def reb (f : Int → Option ByteArray) (want : Int) : Int → Nat → List (Int × ByteArray)
  | _, 0 => []
  | j, c + 1 => (match f (numJ want j) with | some s => [(numJ want j, s)] | none => []) ++ reb f want (j + 1) c
def xwS (e : SE) (i o m : Nat) (acc : List (Int × ByteArray)) : List Value := [.int .i64 e.life, .int .i64 e.peer, .int .i64 e.phase, .int .i64 e.base, .slice (some ⟨i, o, some 4⟩) e.outs.length e.outs.length, .int .i64 e.want, .slice (some ⟨1, 0, some 4⟩) acc.length acc.length, .map (some m)]
def zeroC : List Value := [.int .i64 0, .int .i64 0, .int .i64 0, .int .i64 0, .slice none 0 0, .int .i64 0, .slice none 0 0]

/-- An end whose sent messages begin at a place within their block. -/
def endO (e : SE) (i o j : Nat) : Value := .agg ⟨[.int .i64 e.life, .int .i64 e.peer, .int .i64 e.phase, .int .i64 e.base, .slice (some ⟨i, o, some 4⟩) e.outs.length e.outs.length, .int .i64 e.want, .slice (some ⟨j, 0, some 4⟩) e.ins.length e.ins.length]⟩

noncomputable def A44 : List Code := (sp 44).take 3
noncomputable def C44 : List Code := (sp 44).drop 4
noncomputable def L44 : Code := loopOf (sp 44) 3
theorem sp44 : Ide.spine (bodyOf Pr 44) [] = A44 ++ .block 0 (.loop L44) :: C44 := by kernel_rfl

section
variable {e : SE} {f : Int → Option ByteArray} {k i j m : Nat} {po : List (ByteArray × Bool)} {r : Bool} {H : IHeap}

theorem shut_l {rt : Root} {B : IHeap} (hB : B = H.map (mvO shU)) (hm : rt.m = 64 + H.length) {o : IObj} (gk : B[k]? = some o) {es : List MapEntry} {c : Nat} (gm : B[m]? = some (.map es c)) (hkm : k ≠ m) (L : Look es f) (Qb : IExit → Env → IHeap → Prop) :
    ∀ (n : Nat) (jj : Int) (acc : List (Int × ByteArray)), jj + n = 3 → 0 ≤ jj → acc.length ≤ jj →
    Qb (.exit 0) [(0, ptrTo (k + 64) 0), (2, ptrTo 0 0), (10, .int .i64 3)] (pad 64 [.cells zeroC true, .cells (inC (acc ++ reb f e.want jj n)) true] (B.set k (.cells (xwS e (i + 64) (2 * po.length) (m + 64) (acc ++ reb f e.want jj n)) true))) →
    LWQ rt none Pr 56 L44 Qb [(0, ptrTo (k + 64) 0), (2, ptrTo 0 0), (10, .int .i64 jj)] (pad 64 [.cells zeroC true, .cells (inC acc) true] (B.set k (.cells (xwS e (i + 64) (2 * po.length) (m + 64) acc) true))) := by
  have gset : ∀ X, (B.set k X)[k]? = some X := fun X => set_self gk
  have gmap : ∀ X, (B.set k X)[m]? = some (.map es c) := fun X => set_other gm hkm
  intro n
  induction n with
  | zero =>
    intro jj acc hj h0 ha hx
    obtain rfl : jj = 3 := by omega
    refine lwq_round (hs := [(17, .val (fun _ => Value.map (some (m + 64)))), (22, .val (fun _ => Value.int IntKind.i64 e.want)), (35, .val (fun _ => Value.slice (some ⟨1, 0, some 4⟩) acc.length acc.length)), (40, .val (fun _ => Value.int IntKind.i64 e.want))]) (rf := true) mixed sc0_ok 40 [0, 2, 10] (by kernel_rfl) ?_
    have := hx
    simp only [reb, List.append_nil] at this
    exact Eq.mp (α := Qb (.exit 0) [(0, ptrTo (k + 64) 0), (2, ptrTo 0 0), (10, .int .i64 3)] (pad 64 [.cells zeroC true, .cells (inC acc) true] (B.set k (.cells (xwS e (i + 64) (2 * po.length) (m + 64) acc) true)))) (by kernel_rfl) this
  | succ n ih =>
    intro jj acc hj h0 ha hx
    refine lwq_round (hs := [(17, .val (fun _ => Value.map (some (m + 64)))), (22, .val (fun _ => Value.int IntKind.i64 e.want)), (35, .val (fun _ => Value.slice (some ⟨1, 0, some 4⟩) acc.length acc.length)), (40, .val (fun _ => Value.int IntKind.i64 e.want))]) (rf := true) mixed sc0_ok 40 [0, 2, 10] (by kernel_rfl) ?_
    refine Eq.mp (α := (Ide.bcase (decide (jj < 3))
 (Ide.cellAt (List.set B k (.cells (xwS e (i + 64) (2 * po.length) (m + 64) acc) true)) k 7 = some (Value.map (some (m + 64))) ∧ (Ide.cellAt (List.set B k (.cells (xwS e (i + 64) (2 * po.length) (m + 64) acc) true)) k 5 = some (Value.int IntKind.i64 e.want) ∧ (∃ (es1 : List MapEntry) (c2 : Nat), (List.set B k (.cells (xwS e (i + 64) (2 * po.length) (m + 64) acc) true) : IHeap)[m]? = some (.map es1 c2) ∧ (true = true ∧ ∃ r3 : Option Value, Ide.findV Pr 3 (Value.int IntKind.i64 (IntKind.wrap .i64 ((IntKind.wrap .i64 (e.want + 1)) + jj))) es1 = some r3 ∧ Ide.optS r3 (fun t4 => (Ide.cellAt (List.set B k (.cells (xwS e (i + 64) (2 * po.length) (m + 64) acc) true)) k 6 = some (Value.slice (some ⟨1, 0, some 4⟩) acc.length acc.length) ∧ (Ide.cellAt (List.set B k (.cells (xwS e (i + 64) (2 * po.length) (m + 64) acc) true)) k 5 = some (Value.int IntKind.i64 e.want) ∧ (((acc.length + 1) * 24 ≤ 70368744177664 ∧ acc.length + 1 ≤ 70368744177664) ∧ (0 + acc.length * 2 ≤ List.length ((inC acc) : List Value) ∧ (0 + 1 * 2 ≤ List.length ([Value.int IntKind.i64 (IntKind.wrap .i64 ((IntKind.wrap .i64 (e.want + 1)) + jj)), Value.string t4] : List Value) ∧ ((2 = 2 ∧ true = true) ∧ acc.length < (acc.length + 1) ∧ (∃ cs5 : List Value, (List.set B k (.cells (xwS e (i + 64) (2 * po.length) (m + 64) acc) true) : IHeap)[k]? = some (.cells cs5 true) ∧ 6 + 1 ≤ List.length cs5 ∧ (LWQ rt none Pr 56 L44 Qb [(0, Value.pointer (some ⟨(k + 64), 0, none⟩)), (2, Value.pointer (some ⟨0, 0, none⟩)), (10, Value.int IntKind.i64 (IntKind.wrap .i64 (jj + 1)))] (Ide.pad 64 [.cells [Value.int IntKind.i64 0, Value.int IntKind.i64 0, Value.int IntKind.i64 0, Value.int IntKind.i64 0, Value.slice none 0 0, Value.int IntKind.i64 0, Value.slice none 0 0] true, .dead, .cells [Value.int IntKind.i64 (IntKind.wrap .i64 ((IntKind.wrap .i64 (e.want + 1)) + jj)), Value.string t4] true, .cells ((List.take (acc.length * 2) (List.drop 0 (inC acc)) : List Value) ++ [Value.int IntKind.i64 (IntKind.wrap .i64 ((IntKind.wrap .i64 (e.want + 1)) + jj)), Value.string t4]) true] (List.set (List.set B k (.cells (xwS e (i + 64) (2 * po.length) (m + 64) acc) true)) k (.cells (Ide.splice cs5 6 [Value.slice (some ⟨3, 0, some 4⟩) (acc.length + 1) (acc.length + 1)]) true)))))))))))) (LWQ rt none Pr 56 L44 Qb [(0, Value.pointer (some ⟨(k + 64), 0, none⟩)), (2, Value.pointer (some ⟨0, 0, none⟩)), (10, Value.int IntKind.i64 (IntKind.wrap .i64 (jj + 1)))] (Ide.pad 64 [.cells [Value.int IntKind.i64 0, Value.int IntKind.i64 0, Value.int IntKind.i64 0, Value.int IntKind.i64 0, Value.slice none 0 0, Value.int IntKind.i64 0, Value.slice none 0 0] true, .cells (inC acc) true] (List.set B k (.cells (xwS e (i + 64) (2 * po.length) (m + 64) acc) true))))))))
 (Qb (.exit 0) [(0, Value.pointer (some ⟨(k + 64), 0, none⟩)), (2, Value.pointer (some ⟨0, 0, none⟩)), (10, Value.int IntKind.i64 jj)] (Ide.pad 64 [.cells [Value.int IntKind.i64 0, Value.int IntKind.i64 0, Value.int IntKind.i64 0, Value.int IntKind.i64 0, Value.slice none 0 0, Value.int IntKind.i64 0, Value.slice none 0 0] true, .cells (inC acc) true] (List.set B k (.cells (xwS e (i + 64) (2 * po.length) (m + 64) acc) true)))))) (by kernel_rfl) ?_
    have hw : IntKind.wrap .i64 (jj + 1) = jj + 1 := wrap_i64 (by omega) (by omega)
    rw [hw, inC_all]
    refine bcI (fun h => ⟨cellAt_of (gset _) rfl, cellAt_of (gset _) rfl, es, c, gmap _, look_opt L _ (fun s hs => ?_) (fun hs => ?_)⟩) fun h => by exfalso; simp at h; omega
    · have e1 : acc ++ reb f e.want jj (n + 1) = (acc ++ [(numJ e.want jj, s)]) ++ reb f e.want (jj + 1) n := by
        have hs' : f (numJ e.want jj) = some s := hs
        simp only [reb, hs', List.append_assoc]
      refine ⟨cellAt_of (gset _) rfl, cellAt_of (gset _) rfl, ⟨by omega, by omega⟩, by rw [inC_len]; omega, Nat.le_refl _, ⟨rfl, rfl⟩, by omega, _, gset _, by simp [xwS], ?_⟩
      rw [List.set_set]
      refine LWQ.move (Move.own1 hB hm (mp := [(0, 0), (3, 1)]) (o2 := .cells (xwS e (i + 64) (2 * po.length) (m + 64) (acc ++ [(numJ e.want jj, s)])) true) (l2 := [.cells zeroC true, .cells (inC (acc ++ [(numJ e.want jj, s)])) true]) rfl
        ⟨.inr (LessO.same (by kernel_rfl)), .inr (LessO.plainEq (by rw [inC_append]; rfl) (ground_inC _)), trivial⟩ (LessO.same' ?_)
        (env2 := [(0, ptrTo (k + 64) 0), (2, ptrTo 0 0), (10, .int .i64 (jj + 1))]) ⟨⟨rfl, Less.same (by kernel_rfl)⟩, ⟨rfl, Less.same (by kernel_rfl)⟩, ⟨rfl, Less.refl _⟩, trivial⟩)
        (ih (jj + 1) (acc ++ [(numJ e.want jj, s)]) (by omega) (by omega) (by simp; omega) (by rw [← e1]; exact hx))
      unfold xwS
      rw [List.length_append]
      exact (by kernel_rfl)
    · have e1 : acc ++ reb f e.want jj (n + 1) = acc ++ reb f e.want (jj + 1) n := by
        have hs' : f (numJ e.want jj) = none := hs
        simp only [reb, hs', List.nil_append]
      exact ih (jj + 1) acc (by omega) (by omega) (by omega) (by rw [← e1]; exact hx)

/-- The end as it is closed. -/
def shutE (e : SE) (f : Int → Option ByteArray) : SE := { e with ins := reb f e.want 0 3 }

theorem shut_ok (h : XAt e f k i po j m r H) : ICalls Pr 44 [.pointer (some ⟨k, 0, none⟩)] H (fun r H' => r = .ret (endO (shutE e f) i (2 * po.length) H.length) ∧ H' = H.set k (.cells (xwo (shutE e f) i (2 * po.length) H.length m) true) ++ [.cells (inC (shutE e f).ins) true]) := by
  refine icalls_spine (by kernel_rfl) fun rt hm => ?_
  obtain ⟨R, hR⟩ : ∃ R, R = slotR H.length (fun r H' => r = .ret (endO (shutE e f) i (2 * po.length) H.length) ∧ H' = H.set k (.cells (xwo (shutE e f) i (2 * po.length) H.length m) true) ++ [.cells (inC (shutE e f).ins) true]) := ⟨_, rfl⟩
  obtain ⟨B, hB⟩ : ∃ B, B = H.map (mvO shU) := ⟨_, rfl⟩
  obtain ⟨g1, g2, es, c, g3, L⟩ := h.base
  rw [← hB] at g1 g2 g3
  rw [← hR, ← hB, sp44]
  have hkm : k ≠ m := fun e => by rw [e, g3] at g1; cases g1
  refine iwrl_seg (hs := []) (sc := sc0) (rf := true) mixed sc0_ok 40 [0, 2, 10] A44 _ _ (by kernel_rfl) ?_
  refine Eq.mp (α := (∃ cs1 : List Value, (B : IHeap)[k]? = some (.cells cs1 true) ∧ 6 + 1 ≤ List.length cs1 ∧ (IWRL rt none Pr 56 (.block 0 (.loop L44) :: C44) (bodyS Pr (ressOf Pr 44) R) [(0, Value.pointer (some ⟨(k + 64), 0, none⟩)), (2, Value.pointer (some ⟨0, 0, none⟩)), (10, Value.int IntKind.i64 0)] (Ide.pad 64 [.cells [Value.int IntKind.i64 0, Value.int IntKind.i64 0, Value.int IntKind.i64 0, Value.int IntKind.i64 0, Value.slice none 0 0, Value.int IntKind.i64 0, Value.slice none 0 0] true] (List.set B k (.cells (Ide.splice cs1 6 [Value.slice none 0 0]) true)))))) (by kernel_rfl) ?_
  refine ⟨_, g1, by simp [xwo], ?_⟩
  refine IWRL.move (by simp) (Move.own1 hB hm (mp := [(0, 0)]) (o2 := .cells (xwS e (i + 64) (2 * po.length) (m + 64) []) true) (l2 := [.cells zeroC true, .cells (inC []) true]) rfl
    ⟨.inr (LessO.same (by kernel_rfl)), trivial⟩ ?_
    (env2 := [(0, ptrTo (k + 64) 0), (2, ptrTo 0 0), (10, .int .i64 0)]) ⟨⟨rfl, Less.same (by kernel_rfl)⟩, ⟨rfl, Less.same (by kernel_rfl)⟩, ⟨rfl, Less.refl _⟩, trivial⟩) ?_
  · refine .inr ⟨_, _, _, rfl, rfl, ?_⟩
    refine ⟨Less.refl _, Less.refl _, Less.refl _, Less.refl _, Less.same (by kernel_rfl), Less.refl _, Less.nil _ _ _, Less.same (by kernel_rfl), trivial⟩
  refine iwrl_loop (shut_l hB hm g1 g3 hkm L _ 3 0 [] rfl (by omega) (by simp) ?_)
  show IWRL rt none Pr 56 C44 (bodyS Pr (ressOf Pr 44) R) [(0, ptrTo (k + 64) 0), (2, ptrTo 0 0), (10, .int .i64 3)] (pad 64 [.cells zeroC true, .cells (inC (reb f e.want 0 3)) true] (B.set k (.cells (xwS e (i + 64) (2 * po.length) (m + 64) (reb f e.want 0 3)) true)))
  obtain ⟨acc, hacc⟩ : ∃ acc, acc = reb f e.want 0 3 := ⟨_, rfl⟩
  rw [← hacc]
  refine iwrl_last (hs := [(55, .val (fun _ => Value.agg ⟨[Value.int IntKind.i64 e.life, Value.int IntKind.i64 e.peer, Value.int IntKind.i64 e.phase, Value.int IntKind.i64 e.base, Value.slice (some ⟨(i + 64), (2 * po.length), some 4⟩) e.outs.length e.outs.length, Value.int IntKind.i64 e.want, Value.slice (some ⟨1, 0, some 4⟩) acc.length acc.length]⟩))]) (sc := sc0) (rf := true) mixed sc0_ok 40 C44 (by kernel_rfl) ?_
  refine Eq.mp (α := (Ide.cellsAt (List.set B k (.cells (xwS e (i + 64) (2 * po.length) (m + 64) acc) true)) k 0 7 = some [Value.int IntKind.i64 e.life, Value.int IntKind.i64 e.peer, Value.int IntKind.i64 e.phase, Value.int IntKind.i64 e.base, Value.slice (some ⟨(i + 64), (2 * po.length), some 4⟩) e.outs.length e.outs.length, Value.int IntKind.i64 e.want, Value.slice (some ⟨1, 0, some 4⟩) acc.length acc.length] ∧ (R (IEnd.ret (Value.agg ⟨[Value.int IntKind.i64 e.life, Value.int IntKind.i64 e.peer, Value.int IntKind.i64 e.phase, Value.int IntKind.i64 e.base, Value.slice (some ⟨(i + 64), (2 * po.length), some 4⟩) e.outs.length e.outs.length, Value.int IntKind.i64 e.want, Value.slice (some ⟨1, 0, some 4⟩) acc.length acc.length]⟩)) (Ide.pad 64 [.cells [Value.int IntKind.i64 e.life, Value.int IntKind.i64 e.peer, Value.int IntKind.i64 e.phase, Value.int IntKind.i64 e.base, Value.slice (some ⟨(i + 64), (2 * po.length), some 4⟩) e.outs.length e.outs.length, Value.int IntKind.i64 e.want, Value.slice (some ⟨1, 0, some 4⟩) acc.length acc.length] true, .cells (inC acc) true] (List.set B k (.cells (xwS e (i + 64) (2 * po.length) (m + 64) acc) true)))))) (by kernel_rfl) ?_
  refine ⟨cellsAt_known (set_self g1) (by simp [xwS]) rfl, ?_⟩
  have hs : shutE e f = { e with ins := acc } := by unfold shutE; rw [hacc]
  rw [hR, hB, hs]
  refine slot_set _ (endO { e with ins := acc } i (2 * po.length) H.length) [1] [.cells (inC acc) true] (by decide) rfl (LessO.same' (o' := .cells (xwo { e with ins := acc } i (2 * po.length) H.length m) true) ?_) (newsAt_plain rfl (ground_inC _) trivial) ?_ ⟨rfl, rfl⟩
  · simp only [mvO, xwS, mvV, mvV.goL, unS_sh, xwo]
    rfl
  · refine Less.same ?_
    simp only [mvV, mvV.go, mvV.goL, unS_sh, endO]
    rfl

end
end Go.Proofs.Ytoikiogaiikheaa.Sess
