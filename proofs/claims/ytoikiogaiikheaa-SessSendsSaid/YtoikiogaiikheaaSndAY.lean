/- Equal ends and equal packets; wide, of ends anywhere. -/
import Derived.Test.YtoikiogaiikheaaSndAX
set_option linter.unusedSectionVars false
set_option linter.unusedVariables false
set_option linter.unusedSimpArgs false
set_option maxRecDepth 10000
namespace Go.Proofs.Ytoikiogaiikheaa.Sess
open Go Go.RowKit Ide Go.Proofs

theorem pksC_get (a : List Pkt) (x : Pkt) (b : List Pkt) (c : Nat) : (pksC (a ++ x :: b))[a.length * 7 + c]? = (pktW x ++ pksC b)[c]? := by
  have e : pksC (a ++ x :: b) = pksC a ++ (pktW x ++ pksC b) := by rw [pksC_app]; rfl
  rw [e, List.getElem?_append_right (by rw [pksC_len]; omega), pksC_len, show a.length * 7 + c - a.length * 7 = c by omega]

noncomputable def A18 : List Code := (sp 18).take 4
noncomputable def C18 : List Code := (sp 18).drop 5
noncomputable def L18 : Code := loopOf (sp 18) 4
theorem sp18 : Ide.spine (bodyOf Pr 18) [] = A18 ++ .block 0 (.loop L18) :: C18 := by kernel_rfl

section
variable {H : IHeap}
theorem samek_l {rt : Root} {B : IHeap} {l : List Pkt} {a b : Nat} {r1 r2 : Bool} (ga : B[a]? = some (.cells (pksC l) r1)) (gb : B[b]? = some (.cells (pksC l) r2)) (hl : l.length ≤ 100000) (Qb : IExit → Env → IHeap → Prop) : ∀ (post pre : List Pkt), l = pre ++ post →
    Qb (.exit 0) [(0, pksV l (a + 64)), (1, pksV l (b + 64)), (4, .bool false), (5, .int .i64 ((l.length : Nat) : Int))] (pad 64 [] B) →
    LWQ rt none Pr 26 L18 Qb [(0, pksV l (a + 64)), (1, pksV l (b + 64)), (4, .bool false), (5, .int .i64 ((pre.length : Nat) : Int))] (pad 64 [] B) := by
  intro post
  induction post with
  | nil =>
    intro pre hp hx
    refine lwq_round (hs := []) (rf := true) mixed sc0_ok 40 [0, 1, 4, 5] (by kernel_rfl) ?_
    refine Eq.mp (α := (Ide.bcase (decide (((pre.length : Nat) : Int) < ((l.length : Nat) : Int)))
 (0 ≤ ((pre.length : Nat) : Int) ∧ ((pre.length : Nat) : Int) < ((l.length : Nat) : Int) ∧ (∃ n1 : Int, Ide.cellAt B a (0 + Int.toNat ((pre.length : Nat) : Int) * 7) = some (Value.int IntKind.i64 n1) ∧ (∃ n2 : Int, Ide.cellAt B a ((0 + Int.toNat ((pre.length : Nat) : Int) * 7) + 1) = some (Value.int IntKind.i64 n2) ∧ (∃ n3 : Int, Ide.cellAt B a (((0 + Int.toNat ((pre.length : Nat) : Int) * 7) + 1) + 1) = some (Value.int IntKind.i64 n3) ∧ (∃ n4 : Int, Ide.cellAt B a ((((0 + Int.toNat ((pre.length : Nat) : Int) * 7) + 1) + 1) + 1) = some (Value.int IntKind.i64 n4) ∧ (∃ s5 : ByteArray, Ide.cellAt B a (((((0 + Int.toNat ((pre.length : Nat) : Int) * 7) + 1) + 1) + 1) + 1) = some (Value.string s5) ∧ (∃ n6 : Int, Ide.cellAt B a ((((((0 + Int.toNat ((pre.length : Nat) : Int) * 7) + 1) + 1) + 1) + 1) + 1) = some (Value.int IntKind.i64 n6) ∧ (∃ n7 : Int, Ide.cellAt B a (((((((0 + Int.toNat ((pre.length : Nat) : Int) * 7) + 1) + 1) + 1) + 1) + 1) + 1) = some (Value.int IntKind.i64 n7) ∧ (0 ≤ ((pre.length : Nat) : Int) ∧ ((pre.length : Nat) : Int) < ((l.length : Nat) : Int) ∧ (∃ n8 : Int, Ide.cellAt B b (0 + Int.toNat ((pre.length : Nat) : Int) * 7) = some (Value.int IntKind.i64 n8) ∧ (∃ n9 : Int, Ide.cellAt B b ((0 + Int.toNat ((pre.length : Nat) : Int) * 7) + 1) = some (Value.int IntKind.i64 n9) ∧ (∃ n10 : Int, Ide.cellAt B b (((0 + Int.toNat ((pre.length : Nat) : Int) * 7) + 1) + 1) = some (Value.int IntKind.i64 n10) ∧ (∃ n11 : Int, Ide.cellAt B b ((((0 + Int.toNat ((pre.length : Nat) : Int) * 7) + 1) + 1) + 1) = some (Value.int IntKind.i64 n11) ∧ (∃ s12 : ByteArray, Ide.cellAt B b (((((0 + Int.toNat ((pre.length : Nat) : Int) * 7) + 1) + 1) + 1) + 1) = some (Value.string s12) ∧ (∃ n13 : Int, Ide.cellAt B b ((((((0 + Int.toNat ((pre.length : Nat) : Int) * 7) + 1) + 1) + 1) + 1) + 1) = some (Value.int IntKind.i64 n13) ∧ (∃ n14 : Int, Ide.cellAt B b (((((((0 + Int.toNat ((pre.length : Nat) : Int) * 7) + 1) + 1) + 1) + 1) + 1) + 1) = some (Value.int IntKind.i64 n14) ∧ (Ide.bcase (!((n1 == n8) && ((n2 == n9) && ((n3 == n10) && ((n4 == n11) && ((ByteArray.toList s5 == ByteArray.toList s12) && ((n6 == n13) && ((n7 == n14) && true))))))))
 (Qb .ret [(0, pksV l (a + 64)), (1, pksV l (b + 64)), (4, Value.bool false), (5, Value.int IntKind.i64 ((pre.length : Nat) : Int))] (Ide.pad 64 [] B))
 (LWQ rt none Pr 26 L18 Qb [(0, pksV l (a + 64)), (1, pksV l (b + 64)), (4, Value.bool false), (5, Value.int IntKind.i64 (IntKind.wrap .i64 (((pre.length : Nat) : Int) + 1)))] (Ide.pad 64 [] B)))))))))))))))))))
 (Qb (.exit 0) [(0, pksV l (a + 64)), (1, pksV l (b + 64)), (4, Value.bool false), (5, Value.int IntKind.i64 ((pre.length : Nat) : Int))] (Ide.pad 64 [] B)))) (by kernel_rfl) ?_
    rw [List.append_nil] at hp
    subst hp
    exact bcI (fun h => by exfalso; simp at h) fun h => hx
  | cons x post ih =>
    intro pre hp hx
    refine lwq_round (hs := []) (rf := true) mixed sc0_ok 40 [0, 1, 4, 5] (by kernel_rfl) ?_
    refine Eq.mp (α := (Ide.bcase (decide (((pre.length : Nat) : Int) < ((l.length : Nat) : Int)))
 (0 ≤ ((pre.length : Nat) : Int) ∧ ((pre.length : Nat) : Int) < ((l.length : Nat) : Int) ∧ (∃ n1 : Int, Ide.cellAt B a (0 + Int.toNat ((pre.length : Nat) : Int) * 7) = some (Value.int IntKind.i64 n1) ∧ (∃ n2 : Int, Ide.cellAt B a ((0 + Int.toNat ((pre.length : Nat) : Int) * 7) + 1) = some (Value.int IntKind.i64 n2) ∧ (∃ n3 : Int, Ide.cellAt B a (((0 + Int.toNat ((pre.length : Nat) : Int) * 7) + 1) + 1) = some (Value.int IntKind.i64 n3) ∧ (∃ n4 : Int, Ide.cellAt B a ((((0 + Int.toNat ((pre.length : Nat) : Int) * 7) + 1) + 1) + 1) = some (Value.int IntKind.i64 n4) ∧ (∃ s5 : ByteArray, Ide.cellAt B a (((((0 + Int.toNat ((pre.length : Nat) : Int) * 7) + 1) + 1) + 1) + 1) = some (Value.string s5) ∧ (∃ n6 : Int, Ide.cellAt B a ((((((0 + Int.toNat ((pre.length : Nat) : Int) * 7) + 1) + 1) + 1) + 1) + 1) = some (Value.int IntKind.i64 n6) ∧ (∃ n7 : Int, Ide.cellAt B a (((((((0 + Int.toNat ((pre.length : Nat) : Int) * 7) + 1) + 1) + 1) + 1) + 1) + 1) = some (Value.int IntKind.i64 n7) ∧ (0 ≤ ((pre.length : Nat) : Int) ∧ ((pre.length : Nat) : Int) < ((l.length : Nat) : Int) ∧ (∃ n8 : Int, Ide.cellAt B b (0 + Int.toNat ((pre.length : Nat) : Int) * 7) = some (Value.int IntKind.i64 n8) ∧ (∃ n9 : Int, Ide.cellAt B b ((0 + Int.toNat ((pre.length : Nat) : Int) * 7) + 1) = some (Value.int IntKind.i64 n9) ∧ (∃ n10 : Int, Ide.cellAt B b (((0 + Int.toNat ((pre.length : Nat) : Int) * 7) + 1) + 1) = some (Value.int IntKind.i64 n10) ∧ (∃ n11 : Int, Ide.cellAt B b ((((0 + Int.toNat ((pre.length : Nat) : Int) * 7) + 1) + 1) + 1) = some (Value.int IntKind.i64 n11) ∧ (∃ s12 : ByteArray, Ide.cellAt B b (((((0 + Int.toNat ((pre.length : Nat) : Int) * 7) + 1) + 1) + 1) + 1) = some (Value.string s12) ∧ (∃ n13 : Int, Ide.cellAt B b ((((((0 + Int.toNat ((pre.length : Nat) : Int) * 7) + 1) + 1) + 1) + 1) + 1) = some (Value.int IntKind.i64 n13) ∧ (∃ n14 : Int, Ide.cellAt B b (((((((0 + Int.toNat ((pre.length : Nat) : Int) * 7) + 1) + 1) + 1) + 1) + 1) + 1) = some (Value.int IntKind.i64 n14) ∧ (Ide.bcase (!((n1 == n8) && ((n2 == n9) && ((n3 == n10) && ((n4 == n11) && ((ByteArray.toList s5 == ByteArray.toList s12) && ((n6 == n13) && ((n7 == n14) && true))))))))
 (Qb .ret [(0, pksV l (a + 64)), (1, pksV l (b + 64)), (4, Value.bool false), (5, Value.int IntKind.i64 ((pre.length : Nat) : Int))] (Ide.pad 64 [] B))
 (LWQ rt none Pr 26 L18 Qb [(0, pksV l (a + 64)), (1, pksV l (b + 64)), (4, Value.bool false), (5, Value.int IntKind.i64 (IntKind.wrap .i64 (((pre.length : Nat) : Int) + 1)))] (Ide.pad 64 [] B)))))))))))))))))))
 (Qb (.exit 0) [(0, pksV l (a + 64)), (1, pksV l (b + 64)), (4, Value.bool false), (5, Value.int IntKind.i64 ((pre.length : Nat) : Int))] (Ide.pad 64 [] B)))) (by kernel_rfl) ?_
    have hl2 : l.length = pre.length + post.length + 1 := by rw [hp]; simp; omega
    have hw : IntKind.wrap .i64 (((pre.length : Nat) : Int) + 1) = (((pre ++ [x]).length : Nat) : Int) := by rw [wrap_i64 (by omega) (by omega)]; simp
    have hc : ∀ (c : Nat) (v : Value), (pktW x)[c]? = some v → c < 7 → (pksC l)[0 + Int.toNat ((pre.length : Nat) : Int) * 7 + c]? = some v := by
      intro c v hv hc
      rw [hp, show 0 + Int.toNat ((pre.length : Nat) : Int) * 7 + c = pre.length * 7 + c by simp, pksC_get, List.getElem?_append_left (by simpa [pktW] using hc), hv]
    have ca : ∀ (c : Nat) (v : Value), (pktW x)[c]? = some v → c < 7 → cellAt B a (0 + Int.toNat ((pre.length : Nat) : Int) * 7 + c) = some v := fun c v hv h7 => cellAt_of ga (hc c v hv h7)
    have cb : ∀ (c : Nat) (v : Value), (pktW x)[c]? = some v → c < 7 → cellAt B b (0 + Int.toNat ((pre.length : Nat) : Int) * 7 + c) = some v := fun c v hv h7 => cellAt_of gb (hc c v hv h7)
    refine bcI (fun h => ⟨by omega, by omega, _, ca 0 _ rfl (by decide), _, ca 1 _ rfl (by decide), _, ca 2 _ rfl (by decide), _, ca 3 _ rfl (by decide), _, ca 4 _ rfl (by decide), _, ca 5 _ rfl (by decide), _, ca 6 _ rfl (by decide),
      by omega, by omega, _, cb 0 _ rfl (by decide), _, cb 1 _ rfl (by decide), _, cb 2 _ rfl (by decide), _, cb 3 _ rfl (by decide), _, cb 4 _ rfl (by decide), _, cb 5 _ rfl (by decide), _, cb 6 _ rfl (by decide), bcI (fun h => ?_) fun h => ?_⟩) fun h => by exfalso; simp at h; omega
    · exfalso; simp at h
    · rw [hw]
      exact ih (pre ++ [x]) (by rw [hp]; simp) hx

theorem samek_ok {l : List Pkt} {a b : Nat} {r1 r2 : Bool} (ha : H[a]? = some (.cells (pksC l) r1)) (hb : H[b]? = some (.cells (pksC l) r2)) (hl : l.length ≤ 100000) :
    ICalls Pr 18 [pksV l a, pksV l b] H (fun r H' => r = .ret (.bool true) ∧ H' = H) := by
  refine icalls_spine (by kernel_rfl) fun rt hm => ?_
  obtain ⟨R, hR⟩ : ∃ R, R = slotR H.length (fun r H' => r = .ret (.bool true) ∧ H' = H) := ⟨_, rfl⟩
  obtain ⟨B, hB⟩ : ∃ B, B = H.map (mvO shU) := ⟨_, rfl⟩
  have ga : B[a]? = some (.cells (pksC l) r1) := by rw [hB]; exact base_plain ha (ground_pksC _)
  have gb : B[b]? = some (.cells (pksC l) r2) := by rw [hB]; exact base_plain hb (ground_pksC _)
  rw [← hR, ← hB, sp18]
  refine iwrl_seg (hs := []) (sc := sc0) (rf := true) mixed sc0_ok 40 [0, 1, 4, 5] A18 _ _ (by kernel_rfl) ?_
  refine Eq.mp (α := (Ide.bcase (((l.length : Nat) : Int) != ((l.length : Nat) : Int))
 (R (IEnd.ret (Value.bool false)) (Ide.pad 64 [] B))
 (IWRL rt none Pr 26 (.block 0 (.loop L18) :: C18) (bodyS Pr (ressOf Pr 18) R) [(0, pksV l (a + 64)), (1, pksV l (b + 64)), (4, Value.bool false), (5, Value.int IntKind.i64 0)] (Ide.pad 64 [] B)))) (by kernel_rfl) ?_
  refine bcI (fun h => by exfalso; simp at h) fun h => ?_
  refine iwrl_loop (samek_l ga gb hl _ l [] rfl ?_)
  show IWRL rt none Pr 26 C18 (bodyS Pr (ressOf Pr 18) R) _ _
  refine iwrl_last (hs := []) (sc := sc0) (rf := true) mixed sc0_ok 40 C18 (by kernel_rfl) ?_
  refine Eq.mp (α := R (.ret (.bool true)) (pad 64 [] B)) (by kernel_rfl) ?_
  rw [hR, hB]
  exact slot_plain _ rfl ⟨rfl, rfl⟩

theorem samek_nil : ICalls Pr 18 [.slice none 0 0, .slice none 0 0] H (fun r H' => r = .ret (.bool true) ∧ H' = H) := by
  refine icalls_sy (hs := []) (sc := sc0) 40 mixed sc0_ok (by kernel_rfl) (by kernel_rfl) ?_
  obtain ⟨R, hR⟩ : ∃ R, R = slotR H.length (fun r H' => r = .ret (.bool true) ∧ H' = H) := ⟨_, rfl⟩
  obtain ⟨B, hB⟩ : ∃ B, B = H.map (mvO shU) := ⟨_, rfl⟩
  rw [← hR, ← hB]
  refine Eq.mp (α := R (.ret (.bool true)) (pad 64 [] B)) (by kernel_rfl) ?_
  rw [hR, hB]
  exact slot_plain _ rfl ⟨rfl, rfl⟩

variable {e : SE} {i j u w : Nat} {r1 r2 r3 r4 : Bool}
def bx (e : SE) (i j u w : Nat) : List IObj := [.cells [Value.int IntKind.i64 e.life, Value.int IntKind.i64 e.peer, Value.int IntKind.i64 e.phase, Value.int IntKind.i64 e.base, Value.slice (some ⟨(i + 64), 0, some 4⟩) e.outs.length e.outs.length, Value.int IntKind.i64 e.want, Value.slice (some ⟨(j + 64), 0, some 4⟩) e.ins.length e.ins.length] true, .cells [Value.int IntKind.i64 e.life, Value.int IntKind.i64 e.peer, Value.int IntKind.i64 e.phase, Value.int IntKind.i64 e.base, Value.slice (some ⟨(u + 64), 0, some 4⟩) e.outs.length e.outs.length, Value.int IntKind.i64 e.want, Value.slice (some ⟨(w + 64), 0, some 4⟩) e.ins.length e.ins.length] true]

theorem same_l1 {rt : Root} {B : IHeap} (g1 : B[i]? = some (.cells (outC e.outs) r1)) (g2 : B[u]? = some (.cells (outC e.outs) r2)) (hl : e.outs.length ≤ 100000) (Qb : IExit → Env → IHeap → Prop) : ∀ (post pre : List (ByteArray × Bool)), e.outs = pre ++ post →
    Qb (.exit 0) [(2, ptrTo 0 0), (3, ptrTo 1 0), (4, .bool false), (5, .int .i64 ((e.outs.length : Nat) : Int))] (pad 64 (bx e i j u w) B) →
    LWQ rt none Pr 94 L13a Qb [(2, ptrTo 0 0), (3, ptrTo 1 0), (4, .bool false), (5, .int .i64 ((pre.length : Nat) : Int))] (pad 64 (bx e i j u w) B) := by
  intro post
  induction post with
  | nil =>
    intro pre hp hx
    refine lwq_round (hs := []) (rf := true) mixed sc0_ok 40 [2, 3, 4, 5] (by kernel_rfl) ?_
    refine Eq.mp (α := (Ide.bcase (decide (((pre.length : Nat) : Int) < ((e.outs.length : Nat) : Int)))
 (0 ≤ ((pre.length : Nat) : Int) ∧ ((pre.length : Nat) : Int) < ((e.outs.length : Nat) : Int) ∧ (∃ s1 : ByteArray, Ide.cellAt B i (0 + Int.toNat ((pre.length : Nat) : Int) * 2) = some (Value.string s1) ∧ (∃ b2 : Bool, Ide.cellAt B i ((0 + Int.toNat ((pre.length : Nat) : Int) * 2) + 1) = some (Value.bool b2) ∧ (0 ≤ ((pre.length : Nat) : Int) ∧ ((pre.length : Nat) : Int) < ((e.outs.length : Nat) : Int) ∧ (∃ s3 : ByteArray, Ide.cellAt B u (0 + Int.toNat ((pre.length : Nat) : Int) * 2) = some (Value.string s3) ∧ (∃ b4 : Bool, Ide.cellAt B u ((0 + Int.toNat ((pre.length : Nat) : Int) * 2) + 1) = some (Value.bool b4) ∧ (Ide.bcase (!((ByteArray.toList s1 == ByteArray.toList s3) && ((b2 == b4) && true)))
 (Qb .ret [(2, Value.pointer (some ⟨0, 0, none⟩)), (3, Value.pointer (some ⟨1, 0, none⟩)), (4, Value.bool false), (5, Value.int IntKind.i64 ((pre.length : Nat) : Int))] (Ide.pad 64 [.cells [Value.int IntKind.i64 e.life, Value.int IntKind.i64 e.peer, Value.int IntKind.i64 e.phase, Value.int IntKind.i64 e.base, Value.slice (some ⟨(i + 64), 0, some 4⟩) e.outs.length e.outs.length, Value.int IntKind.i64 e.want, Value.slice (some ⟨(j + 64), 0, some 4⟩) e.ins.length e.ins.length] true, .cells [Value.int IntKind.i64 e.life, Value.int IntKind.i64 e.peer, Value.int IntKind.i64 e.phase, Value.int IntKind.i64 e.base, Value.slice (some ⟨(u + 64), 0, some 4⟩) e.outs.length e.outs.length, Value.int IntKind.i64 e.want, Value.slice (some ⟨(w + 64), 0, some 4⟩) e.ins.length e.ins.length] true] B))
 (LWQ rt none Pr 94 L13a Qb [(2, Value.pointer (some ⟨0, 0, none⟩)), (3, Value.pointer (some ⟨1, 0, none⟩)), (4, Value.bool false), (5, Value.int IntKind.i64 (IntKind.wrap .i64 (((pre.length : Nat) : Int) + 1)))] (Ide.pad 64 [.cells [Value.int IntKind.i64 e.life, Value.int IntKind.i64 e.peer, Value.int IntKind.i64 e.phase, Value.int IntKind.i64 e.base, Value.slice (some ⟨(i + 64), 0, some 4⟩) e.outs.length e.outs.length, Value.int IntKind.i64 e.want, Value.slice (some ⟨(j + 64), 0, some 4⟩) e.ins.length e.ins.length] true, .cells [Value.int IntKind.i64 e.life, Value.int IntKind.i64 e.peer, Value.int IntKind.i64 e.phase, Value.int IntKind.i64 e.base, Value.slice (some ⟨(u + 64), 0, some 4⟩) e.outs.length e.outs.length, Value.int IntKind.i64 e.want, Value.slice (some ⟨(w + 64), 0, some 4⟩) e.ins.length e.ins.length] true] B)))))))))
 (Qb (.exit 0) [(2, Value.pointer (some ⟨0, 0, none⟩)), (3, Value.pointer (some ⟨1, 0, none⟩)), (4, Value.bool false), (5, Value.int IntKind.i64 ((pre.length : Nat) : Int))] (Ide.pad 64 [.cells [Value.int IntKind.i64 e.life, Value.int IntKind.i64 e.peer, Value.int IntKind.i64 e.phase, Value.int IntKind.i64 e.base, Value.slice (some ⟨(i + 64), 0, some 4⟩) e.outs.length e.outs.length, Value.int IntKind.i64 e.want, Value.slice (some ⟨(j + 64), 0, some 4⟩) e.ins.length e.ins.length] true, .cells [Value.int IntKind.i64 e.life, Value.int IntKind.i64 e.peer, Value.int IntKind.i64 e.phase, Value.int IntKind.i64 e.base, Value.slice (some ⟨(u + 64), 0, some 4⟩) e.outs.length e.outs.length, Value.int IntKind.i64 e.want, Value.slice (some ⟨(w + 64), 0, some 4⟩) e.ins.length e.ins.length] true] B)))) (by kernel_rfl) ?_
    rw [List.append_nil] at hp
    rw [hp] at hx
    exact bcI (fun h => by exfalso; rw [hp] at h; simp at h) fun h => hx
  | cons x post ih =>
    intro pre hp hx
    refine lwq_round (hs := []) (rf := true) mixed sc0_ok 40 [2, 3, 4, 5] (by kernel_rfl) ?_
    refine Eq.mp (α := (Ide.bcase (decide (((pre.length : Nat) : Int) < ((e.outs.length : Nat) : Int)))
 (0 ≤ ((pre.length : Nat) : Int) ∧ ((pre.length : Nat) : Int) < ((e.outs.length : Nat) : Int) ∧ (∃ s1 : ByteArray, Ide.cellAt B i (0 + Int.toNat ((pre.length : Nat) : Int) * 2) = some (Value.string s1) ∧ (∃ b2 : Bool, Ide.cellAt B i ((0 + Int.toNat ((pre.length : Nat) : Int) * 2) + 1) = some (Value.bool b2) ∧ (0 ≤ ((pre.length : Nat) : Int) ∧ ((pre.length : Nat) : Int) < ((e.outs.length : Nat) : Int) ∧ (∃ s3 : ByteArray, Ide.cellAt B u (0 + Int.toNat ((pre.length : Nat) : Int) * 2) = some (Value.string s3) ∧ (∃ b4 : Bool, Ide.cellAt B u ((0 + Int.toNat ((pre.length : Nat) : Int) * 2) + 1) = some (Value.bool b4) ∧ (Ide.bcase (!((ByteArray.toList s1 == ByteArray.toList s3) && ((b2 == b4) && true)))
 (Qb .ret [(2, Value.pointer (some ⟨0, 0, none⟩)), (3, Value.pointer (some ⟨1, 0, none⟩)), (4, Value.bool false), (5, Value.int IntKind.i64 ((pre.length : Nat) : Int))] (Ide.pad 64 [.cells [Value.int IntKind.i64 e.life, Value.int IntKind.i64 e.peer, Value.int IntKind.i64 e.phase, Value.int IntKind.i64 e.base, Value.slice (some ⟨(i + 64), 0, some 4⟩) e.outs.length e.outs.length, Value.int IntKind.i64 e.want, Value.slice (some ⟨(j + 64), 0, some 4⟩) e.ins.length e.ins.length] true, .cells [Value.int IntKind.i64 e.life, Value.int IntKind.i64 e.peer, Value.int IntKind.i64 e.phase, Value.int IntKind.i64 e.base, Value.slice (some ⟨(u + 64), 0, some 4⟩) e.outs.length e.outs.length, Value.int IntKind.i64 e.want, Value.slice (some ⟨(w + 64), 0, some 4⟩) e.ins.length e.ins.length] true] B))
 (LWQ rt none Pr 94 L13a Qb [(2, Value.pointer (some ⟨0, 0, none⟩)), (3, Value.pointer (some ⟨1, 0, none⟩)), (4, Value.bool false), (5, Value.int IntKind.i64 (IntKind.wrap .i64 (((pre.length : Nat) : Int) + 1)))] (Ide.pad 64 [.cells [Value.int IntKind.i64 e.life, Value.int IntKind.i64 e.peer, Value.int IntKind.i64 e.phase, Value.int IntKind.i64 e.base, Value.slice (some ⟨(i + 64), 0, some 4⟩) e.outs.length e.outs.length, Value.int IntKind.i64 e.want, Value.slice (some ⟨(j + 64), 0, some 4⟩) e.ins.length e.ins.length] true, .cells [Value.int IntKind.i64 e.life, Value.int IntKind.i64 e.peer, Value.int IntKind.i64 e.phase, Value.int IntKind.i64 e.base, Value.slice (some ⟨(u + 64), 0, some 4⟩) e.outs.length e.outs.length, Value.int IntKind.i64 e.want, Value.slice (some ⟨(w + 64), 0, some 4⟩) e.ins.length e.ins.length] true] B)))))))))
 (Qb (.exit 0) [(2, Value.pointer (some ⟨0, 0, none⟩)), (3, Value.pointer (some ⟨1, 0, none⟩)), (4, Value.bool false), (5, Value.int IntKind.i64 ((pre.length : Nat) : Int))] (Ide.pad 64 [.cells [Value.int IntKind.i64 e.life, Value.int IntKind.i64 e.peer, Value.int IntKind.i64 e.phase, Value.int IntKind.i64 e.base, Value.slice (some ⟨(i + 64), 0, some 4⟩) e.outs.length e.outs.length, Value.int IntKind.i64 e.want, Value.slice (some ⟨(j + 64), 0, some 4⟩) e.ins.length e.ins.length] true, .cells [Value.int IntKind.i64 e.life, Value.int IntKind.i64 e.peer, Value.int IntKind.i64 e.phase, Value.int IntKind.i64 e.base, Value.slice (some ⟨(u + 64), 0, some 4⟩) e.outs.length e.outs.length, Value.int IntKind.i64 e.want, Value.slice (some ⟨(w + 64), 0, some 4⟩) e.ins.length e.ins.length] true] B)))) (by kernel_rfl) ?_
    have hl2 : e.outs.length = pre.length + post.length + 1 := by rw [hp]; simp; omega
    have hw : IntKind.wrap .i64 (((pre.length : Nat) : Int) + 1) = (((pre ++ [x]).length : Nat) : Int) := by rw [wrap_i64 (by omega) (by omega)]; simp
    have e0 : 0 + Int.toNat ((pre.length : Nat) : Int) * 2 = 2 * pre.length := by simp; omega
    have c0 : (outC e.outs)[0 + Int.toNat ((pre.length : Nat) : Int) * 2]? = some (.string x.1) := by rw [hp, e0]; exact (outC_get pre x post).1
    have c1 : (outC e.outs)[0 + Int.toNat ((pre.length : Nat) : Int) * 2 + 1]? = some (.bool x.2) := by rw [hp, e0]; exact (outC_get pre x post).2
    refine bcI (fun h => ⟨by omega, by omega, _, cellAt_of g1 c0, _, cellAt_of g1 c1, by omega, by omega, _, cellAt_of g2 c0, _, cellAt_of g2 c1, bcI (fun h => ?_) fun h => ?_⟩) fun h => by exfalso; simp at h; omega
    · exfalso; simp at h
    · rw [hw]
      exact ih (pre ++ [x]) (by rw [hp]; simp) hx

theorem same_l2 {rt : Root} {B : IHeap} (g1 : B[j]? = some (.cells (inC e.ins) r1)) (g2 : B[w]? = some (.cells (inC e.ins) r2)) (hl : e.ins.length ≤ 100000) (Qb : IExit → Env → IHeap → Prop) : ∀ (post pre : List (Int × ByteArray)), e.ins = pre ++ post →
    Qb (.exit 2) [(2, ptrTo 0 0), (3, ptrTo 1 0), (4, .bool false), (6, .int .i64 ((e.ins.length : Nat) : Int))] (pad 64 (bx e i j u w) B) →
    LWQ rt none Pr 94 L13b Qb [(2, ptrTo 0 0), (3, ptrTo 1 0), (4, .bool false), (6, .int .i64 ((pre.length : Nat) : Int))] (pad 64 (bx e i j u w) B) := by
  intro post
  induction post with
  | nil =>
    intro pre hp hx
    refine lwq_round (hs := []) (rf := true) mixed sc0_ok 40 [2, 3, 4, 6] (by kernel_rfl) ?_
    refine Eq.mp (α := (Ide.bcase (decide (((pre.length : Nat) : Int) < ((e.ins.length : Nat) : Int)))
 (0 ≤ ((pre.length : Nat) : Int) ∧ ((pre.length : Nat) : Int) < ((e.ins.length : Nat) : Int) ∧ (∃ n1 : Int, Ide.cellAt B j (0 + Int.toNat ((pre.length : Nat) : Int) * 2) = some (Value.int IntKind.i64 n1) ∧ (∃ s2 : ByteArray, Ide.cellAt B j ((0 + Int.toNat ((pre.length : Nat) : Int) * 2) + 1) = some (Value.string s2) ∧ (0 ≤ ((pre.length : Nat) : Int) ∧ ((pre.length : Nat) : Int) < ((e.ins.length : Nat) : Int) ∧ (∃ n3 : Int, Ide.cellAt B w (0 + Int.toNat ((pre.length : Nat) : Int) * 2) = some (Value.int IntKind.i64 n3) ∧ (∃ s4 : ByteArray, Ide.cellAt B w ((0 + Int.toNat ((pre.length : Nat) : Int) * 2) + 1) = some (Value.string s4) ∧ (Ide.bcase (!((n1 == n3) && ((ByteArray.toList s2 == ByteArray.toList s4) && true)))
 (Qb .ret [(2, Value.pointer (some ⟨0, 0, none⟩)), (3, Value.pointer (some ⟨1, 0, none⟩)), (4, Value.bool false), (6, Value.int IntKind.i64 ((pre.length : Nat) : Int))] (Ide.pad 64 [.cells [Value.int IntKind.i64 e.life, Value.int IntKind.i64 e.peer, Value.int IntKind.i64 e.phase, Value.int IntKind.i64 e.base, Value.slice (some ⟨(i + 64), 0, some 4⟩) e.outs.length e.outs.length, Value.int IntKind.i64 e.want, Value.slice (some ⟨(j + 64), 0, some 4⟩) e.ins.length e.ins.length] true, .cells [Value.int IntKind.i64 e.life, Value.int IntKind.i64 e.peer, Value.int IntKind.i64 e.phase, Value.int IntKind.i64 e.base, Value.slice (some ⟨(u + 64), 0, some 4⟩) e.outs.length e.outs.length, Value.int IntKind.i64 e.want, Value.slice (some ⟨(w + 64), 0, some 4⟩) e.ins.length e.ins.length] true] B))
 (LWQ rt none Pr 94 L13b Qb [(2, Value.pointer (some ⟨0, 0, none⟩)), (3, Value.pointer (some ⟨1, 0, none⟩)), (4, Value.bool false), (6, Value.int IntKind.i64 (IntKind.wrap .i64 (((pre.length : Nat) : Int) + 1)))] (Ide.pad 64 [.cells [Value.int IntKind.i64 e.life, Value.int IntKind.i64 e.peer, Value.int IntKind.i64 e.phase, Value.int IntKind.i64 e.base, Value.slice (some ⟨(i + 64), 0, some 4⟩) e.outs.length e.outs.length, Value.int IntKind.i64 e.want, Value.slice (some ⟨(j + 64), 0, some 4⟩) e.ins.length e.ins.length] true, .cells [Value.int IntKind.i64 e.life, Value.int IntKind.i64 e.peer, Value.int IntKind.i64 e.phase, Value.int IntKind.i64 e.base, Value.slice (some ⟨(u + 64), 0, some 4⟩) e.outs.length e.outs.length, Value.int IntKind.i64 e.want, Value.slice (some ⟨(w + 64), 0, some 4⟩) e.ins.length e.ins.length] true] B)))))))))
 (Qb (.exit 2) [(2, Value.pointer (some ⟨0, 0, none⟩)), (3, Value.pointer (some ⟨1, 0, none⟩)), (4, Value.bool false), (6, Value.int IntKind.i64 ((pre.length : Nat) : Int))] (Ide.pad 64 [.cells [Value.int IntKind.i64 e.life, Value.int IntKind.i64 e.peer, Value.int IntKind.i64 e.phase, Value.int IntKind.i64 e.base, Value.slice (some ⟨(i + 64), 0, some 4⟩) e.outs.length e.outs.length, Value.int IntKind.i64 e.want, Value.slice (some ⟨(j + 64), 0, some 4⟩) e.ins.length e.ins.length] true, .cells [Value.int IntKind.i64 e.life, Value.int IntKind.i64 e.peer, Value.int IntKind.i64 e.phase, Value.int IntKind.i64 e.base, Value.slice (some ⟨(u + 64), 0, some 4⟩) e.outs.length e.outs.length, Value.int IntKind.i64 e.want, Value.slice (some ⟨(w + 64), 0, some 4⟩) e.ins.length e.ins.length] true] B)))) (by kernel_rfl) ?_
    rw [List.append_nil] at hp
    rw [hp] at hx
    exact bcI (fun h => by exfalso; rw [hp] at h; simp at h) fun h => hx
  | cons x post ih =>
    intro pre hp hx
    refine lwq_round (hs := []) (rf := true) mixed sc0_ok 40 [2, 3, 4, 6] (by kernel_rfl) ?_
    refine Eq.mp (α := (Ide.bcase (decide (((pre.length : Nat) : Int) < ((e.ins.length : Nat) : Int)))
 (0 ≤ ((pre.length : Nat) : Int) ∧ ((pre.length : Nat) : Int) < ((e.ins.length : Nat) : Int) ∧ (∃ n1 : Int, Ide.cellAt B j (0 + Int.toNat ((pre.length : Nat) : Int) * 2) = some (Value.int IntKind.i64 n1) ∧ (∃ s2 : ByteArray, Ide.cellAt B j ((0 + Int.toNat ((pre.length : Nat) : Int) * 2) + 1) = some (Value.string s2) ∧ (0 ≤ ((pre.length : Nat) : Int) ∧ ((pre.length : Nat) : Int) < ((e.ins.length : Nat) : Int) ∧ (∃ n3 : Int, Ide.cellAt B w (0 + Int.toNat ((pre.length : Nat) : Int) * 2) = some (Value.int IntKind.i64 n3) ∧ (∃ s4 : ByteArray, Ide.cellAt B w ((0 + Int.toNat ((pre.length : Nat) : Int) * 2) + 1) = some (Value.string s4) ∧ (Ide.bcase (!((n1 == n3) && ((ByteArray.toList s2 == ByteArray.toList s4) && true)))
 (Qb .ret [(2, Value.pointer (some ⟨0, 0, none⟩)), (3, Value.pointer (some ⟨1, 0, none⟩)), (4, Value.bool false), (6, Value.int IntKind.i64 ((pre.length : Nat) : Int))] (Ide.pad 64 [.cells [Value.int IntKind.i64 e.life, Value.int IntKind.i64 e.peer, Value.int IntKind.i64 e.phase, Value.int IntKind.i64 e.base, Value.slice (some ⟨(i + 64), 0, some 4⟩) e.outs.length e.outs.length, Value.int IntKind.i64 e.want, Value.slice (some ⟨(j + 64), 0, some 4⟩) e.ins.length e.ins.length] true, .cells [Value.int IntKind.i64 e.life, Value.int IntKind.i64 e.peer, Value.int IntKind.i64 e.phase, Value.int IntKind.i64 e.base, Value.slice (some ⟨(u + 64), 0, some 4⟩) e.outs.length e.outs.length, Value.int IntKind.i64 e.want, Value.slice (some ⟨(w + 64), 0, some 4⟩) e.ins.length e.ins.length] true] B))
 (LWQ rt none Pr 94 L13b Qb [(2, Value.pointer (some ⟨0, 0, none⟩)), (3, Value.pointer (some ⟨1, 0, none⟩)), (4, Value.bool false), (6, Value.int IntKind.i64 (IntKind.wrap .i64 (((pre.length : Nat) : Int) + 1)))] (Ide.pad 64 [.cells [Value.int IntKind.i64 e.life, Value.int IntKind.i64 e.peer, Value.int IntKind.i64 e.phase, Value.int IntKind.i64 e.base, Value.slice (some ⟨(i + 64), 0, some 4⟩) e.outs.length e.outs.length, Value.int IntKind.i64 e.want, Value.slice (some ⟨(j + 64), 0, some 4⟩) e.ins.length e.ins.length] true, .cells [Value.int IntKind.i64 e.life, Value.int IntKind.i64 e.peer, Value.int IntKind.i64 e.phase, Value.int IntKind.i64 e.base, Value.slice (some ⟨(u + 64), 0, some 4⟩) e.outs.length e.outs.length, Value.int IntKind.i64 e.want, Value.slice (some ⟨(w + 64), 0, some 4⟩) e.ins.length e.ins.length] true] B)))))))))
 (Qb (.exit 2) [(2, Value.pointer (some ⟨0, 0, none⟩)), (3, Value.pointer (some ⟨1, 0, none⟩)), (4, Value.bool false), (6, Value.int IntKind.i64 ((pre.length : Nat) : Int))] (Ide.pad 64 [.cells [Value.int IntKind.i64 e.life, Value.int IntKind.i64 e.peer, Value.int IntKind.i64 e.phase, Value.int IntKind.i64 e.base, Value.slice (some ⟨(i + 64), 0, some 4⟩) e.outs.length e.outs.length, Value.int IntKind.i64 e.want, Value.slice (some ⟨(j + 64), 0, some 4⟩) e.ins.length e.ins.length] true, .cells [Value.int IntKind.i64 e.life, Value.int IntKind.i64 e.peer, Value.int IntKind.i64 e.phase, Value.int IntKind.i64 e.base, Value.slice (some ⟨(u + 64), 0, some 4⟩) e.outs.length e.outs.length, Value.int IntKind.i64 e.want, Value.slice (some ⟨(w + 64), 0, some 4⟩) e.ins.length e.ins.length] true] B)))) (by kernel_rfl) ?_
    have hl2 : e.ins.length = pre.length + post.length + 1 := by rw [hp]; simp; omega
    have hw : IntKind.wrap .i64 (((pre.length : Nat) : Int) + 1) = (((pre ++ [x]).length : Nat) : Int) := by rw [wrap_i64 (by omega) (by omega)]; simp
    have e0 : 0 + Int.toNat ((pre.length : Nat) : Int) * 2 = 2 * pre.length := by simp; omega
    have c0 : (inC e.ins)[0 + Int.toNat ((pre.length : Nat) : Int) * 2]? = some (.int .i64 x.1) := by rw [hp, e0]; exact (inC_get pre x post).1
    have c1 : (inC e.ins)[0 + Int.toNat ((pre.length : Nat) : Int) * 2 + 1]? = some (.string x.2) := by rw [hp, e0]; exact (inC_get pre x post).2
    refine bcI (fun h => ⟨by omega, by omega, _, cellAt_of g1 c0, _, cellAt_of g1 c1, by omega, by omega, _, cellAt_of g2 c0, _, cellAt_of g2 c1, bcI (fun h => ?_) fun h => ?_⟩) fun h => by exfalso; simp at h; omega
    · exfalso; simp at h
    · rw [hw]
      exact ih (pre ++ [x]) (by rw [hp]; simp) hx

/-- Two ends that are equal. -/
theorem samee_ok (h1 : H[i]? = some (.cells (outC e.outs) r1)) (h2 : H[j]? = some (.cells (inC e.ins) r2)) (h3 : H[u]? = some (.cells (outC e.outs) r3)) (h4 : H[w]? = some (.cells (inC e.ins) r4)) (ho : e.outs.length ≤ 100000) (hi : e.ins.length ≤ 100000) :
    ICalls Pr 13 [endP e i j, endP e u w] H (fun r H' => r = .ret (.bool true) ∧ H' = H) := by
  refine icalls_spine (by kernel_rfl) fun rt hm => ?_
  obtain ⟨R, hR⟩ : ∃ R, R = slotR H.length (fun r H' => r = .ret (.bool true) ∧ H' = H) := ⟨_, rfl⟩
  obtain ⟨B, hB⟩ : ∃ B, B = H.map (mvO shU) := ⟨_, rfl⟩
  have g1 : B[i]? = some (.cells (outC e.outs) r1) := by rw [hB]; exact base_plain h1 (ground_outC _)
  have g2 : B[j]? = some (.cells (inC e.ins) r2) := by rw [hB]; exact base_plain h2 (ground_inC _)
  have g3 : B[u]? = some (.cells (outC e.outs) r3) := by rw [hB]; exact base_plain h3 (ground_outC _)
  have g4 : B[w]? = some (.cells (inC e.ins) r4) := by rw [hB]; exact base_plain h4 (ground_inC _)
  rw [← hR, ← hB, sp13]
  refine iwrl_seg (hs := []) (sc := sc0) (rf := true) mixed sc0_ok 40 [2, 3, 4, 5] A13 _ _ (by kernel_rfl) ?_
  refine Eq.mp (α := (Ide.bcase (e.life != e.life)
 (R (IEnd.ret (Value.bool false)) (Ide.pad 64 [.cells [Value.int IntKind.i64 e.life, Value.int IntKind.i64 e.peer, Value.int IntKind.i64 e.phase, Value.int IntKind.i64 e.base, Value.slice (some ⟨(i + 64), 0, some 4⟩) e.outs.length e.outs.length, Value.int IntKind.i64 e.want, Value.slice (some ⟨(j + 64), 0, some 4⟩) e.ins.length e.ins.length] true, .cells [Value.int IntKind.i64 e.life, Value.int IntKind.i64 e.peer, Value.int IntKind.i64 e.phase, Value.int IntKind.i64 e.base, Value.slice (some ⟨(u + 64), 0, some 4⟩) e.outs.length e.outs.length, Value.int IntKind.i64 e.want, Value.slice (some ⟨(w + 64), 0, some 4⟩) e.ins.length e.ins.length] true] B))
 (Ide.bcase (e.peer != e.peer)
 (R (IEnd.ret (Value.bool false)) (Ide.pad 64 [.cells [Value.int IntKind.i64 e.life, Value.int IntKind.i64 e.peer, Value.int IntKind.i64 e.phase, Value.int IntKind.i64 e.base, Value.slice (some ⟨(i + 64), 0, some 4⟩) e.outs.length e.outs.length, Value.int IntKind.i64 e.want, Value.slice (some ⟨(j + 64), 0, some 4⟩) e.ins.length e.ins.length] true, .cells [Value.int IntKind.i64 e.life, Value.int IntKind.i64 e.peer, Value.int IntKind.i64 e.phase, Value.int IntKind.i64 e.base, Value.slice (some ⟨(u + 64), 0, some 4⟩) e.outs.length e.outs.length, Value.int IntKind.i64 e.want, Value.slice (some ⟨(w + 64), 0, some 4⟩) e.ins.length e.ins.length] true] B))
 (Ide.bcase (e.phase != e.phase)
 (R (IEnd.ret (Value.bool false)) (Ide.pad 64 [.cells [Value.int IntKind.i64 e.life, Value.int IntKind.i64 e.peer, Value.int IntKind.i64 e.phase, Value.int IntKind.i64 e.base, Value.slice (some ⟨(i + 64), 0, some 4⟩) e.outs.length e.outs.length, Value.int IntKind.i64 e.want, Value.slice (some ⟨(j + 64), 0, some 4⟩) e.ins.length e.ins.length] true, .cells [Value.int IntKind.i64 e.life, Value.int IntKind.i64 e.peer, Value.int IntKind.i64 e.phase, Value.int IntKind.i64 e.base, Value.slice (some ⟨(u + 64), 0, some 4⟩) e.outs.length e.outs.length, Value.int IntKind.i64 e.want, Value.slice (some ⟨(w + 64), 0, some 4⟩) e.ins.length e.ins.length] true] B))
 (Ide.bcase (e.base != e.base)
 (R (IEnd.ret (Value.bool false)) (Ide.pad 64 [.cells [Value.int IntKind.i64 e.life, Value.int IntKind.i64 e.peer, Value.int IntKind.i64 e.phase, Value.int IntKind.i64 e.base, Value.slice (some ⟨(i + 64), 0, some 4⟩) e.outs.length e.outs.length, Value.int IntKind.i64 e.want, Value.slice (some ⟨(j + 64), 0, some 4⟩) e.ins.length e.ins.length] true, .cells [Value.int IntKind.i64 e.life, Value.int IntKind.i64 e.peer, Value.int IntKind.i64 e.phase, Value.int IntKind.i64 e.base, Value.slice (some ⟨(u + 64), 0, some 4⟩) e.outs.length e.outs.length, Value.int IntKind.i64 e.want, Value.slice (some ⟨(w + 64), 0, some 4⟩) e.ins.length e.ins.length] true] B))
 (Ide.bcase (e.want != e.want)
 (R (IEnd.ret (Value.bool false)) (Ide.pad 64 [.cells [Value.int IntKind.i64 e.life, Value.int IntKind.i64 e.peer, Value.int IntKind.i64 e.phase, Value.int IntKind.i64 e.base, Value.slice (some ⟨(i + 64), 0, some 4⟩) e.outs.length e.outs.length, Value.int IntKind.i64 e.want, Value.slice (some ⟨(j + 64), 0, some 4⟩) e.ins.length e.ins.length] true, .cells [Value.int IntKind.i64 e.life, Value.int IntKind.i64 e.peer, Value.int IntKind.i64 e.phase, Value.int IntKind.i64 e.base, Value.slice (some ⟨(u + 64), 0, some 4⟩) e.outs.length e.outs.length, Value.int IntKind.i64 e.want, Value.slice (some ⟨(w + 64), 0, some 4⟩) e.ins.length e.ins.length] true] B))
 (Ide.bcase (((e.outs.length : Nat) : Int) != ((e.outs.length : Nat) : Int))
 (R (IEnd.ret (Value.bool false)) (Ide.pad 64 [.cells [Value.int IntKind.i64 e.life, Value.int IntKind.i64 e.peer, Value.int IntKind.i64 e.phase, Value.int IntKind.i64 e.base, Value.slice (some ⟨(i + 64), 0, some 4⟩) e.outs.length e.outs.length, Value.int IntKind.i64 e.want, Value.slice (some ⟨(j + 64), 0, some 4⟩) e.ins.length e.ins.length] true, .cells [Value.int IntKind.i64 e.life, Value.int IntKind.i64 e.peer, Value.int IntKind.i64 e.phase, Value.int IntKind.i64 e.base, Value.slice (some ⟨(u + 64), 0, some 4⟩) e.outs.length e.outs.length, Value.int IntKind.i64 e.want, Value.slice (some ⟨(w + 64), 0, some 4⟩) e.ins.length e.ins.length] true] B))
 (Ide.bcase (((e.ins.length : Nat) : Int) != ((e.ins.length : Nat) : Int))
 (R (IEnd.ret (Value.bool false)) (Ide.pad 64 [.cells [Value.int IntKind.i64 e.life, Value.int IntKind.i64 e.peer, Value.int IntKind.i64 e.phase, Value.int IntKind.i64 e.base, Value.slice (some ⟨(i + 64), 0, some 4⟩) e.outs.length e.outs.length, Value.int IntKind.i64 e.want, Value.slice (some ⟨(j + 64), 0, some 4⟩) e.ins.length e.ins.length] true, .cells [Value.int IntKind.i64 e.life, Value.int IntKind.i64 e.peer, Value.int IntKind.i64 e.phase, Value.int IntKind.i64 e.base, Value.slice (some ⟨(u + 64), 0, some 4⟩) e.outs.length e.outs.length, Value.int IntKind.i64 e.want, Value.slice (some ⟨(w + 64), 0, some 4⟩) e.ins.length e.ins.length] true] B))
 (IWRL rt none Pr 94 (.block 0 (.loop L13a) :: (B13 ++ .block 2 (.loop L13b) :: C13)) (bodyS Pr (ressOf Pr 13) R) [(2, Value.pointer (some ⟨0, 0, none⟩)), (3, Value.pointer (some ⟨1, 0, none⟩)), (4, Value.bool false), (5, Value.int IntKind.i64 0)] (Ide.pad 64 [.cells [Value.int IntKind.i64 e.life, Value.int IntKind.i64 e.peer, Value.int IntKind.i64 e.phase, Value.int IntKind.i64 e.base, Value.slice (some ⟨(i + 64), 0, some 4⟩) e.outs.length e.outs.length, Value.int IntKind.i64 e.want, Value.slice (some ⟨(j + 64), 0, some 4⟩) e.ins.length e.ins.length] true, .cells [Value.int IntKind.i64 e.life, Value.int IntKind.i64 e.peer, Value.int IntKind.i64 e.phase, Value.int IntKind.i64 e.base, Value.slice (some ⟨(u + 64), 0, some 4⟩) e.outs.length e.outs.length, Value.int IntKind.i64 e.want, Value.slice (some ⟨(w + 64), 0, some 4⟩) e.ins.length e.ins.length] true] B)))))))))) (by kernel_rfl) ?_
  have fin : IWRL rt none Pr 94 (.block 0 (.loop L13a) :: (B13 ++ .block 2 (.loop L13b) :: C13)) (bodyS Pr (ressOf Pr 13) R) [(2, ptrTo 0 0), (3, ptrTo 1 0), (4, .bool false), (5, .int .i64 ((([] : List (ByteArray × Bool)).length : Nat) : Int))] (pad 64 (bx e i j u w) B) := by
    refine iwrl_loop (same_l1 g1 g3 ho _ e.outs [] rfl ?_)
    show IWRL rt none Pr 94 (B13 ++ .block 2 (.loop L13b) :: C13) (bodyS Pr (ressOf Pr 13) R) _ _
    refine iwrl_seg (hs := []) (sc := sc0) (rf := true) mixed sc0_ok 40 [2, 3, 4, 6] B13 _ _ (by kernel_rfl) ?_
    refine Eq.mp (α := IWRL rt none Pr 94 (.block 2 (.loop L13b) :: C13) (bodyS Pr (ressOf Pr 13) R) [(2, ptrTo 0 0), (3, ptrTo 1 0), (4, .bool false), (6, .int .i64 ((([] : List (Int × ByteArray)).length : Nat) : Int))] (pad 64 (bx e i j u w) B)) (by kernel_rfl) ?_
    refine iwrl_loop (same_l2 g2 g4 hi _ e.ins [] rfl ?_)
    show IWRL rt none Pr 94 C13 (bodyS Pr (ressOf Pr 13) R) _ _
    refine iwrl_last (hs := []) (sc := sc0) (rf := true) mixed sc0_ok 40 C13 (by kernel_rfl) ?_
    refine Eq.mp (α := R (.ret (.bool true)) (pad 64 (bx e i j u w) B)) (by kernel_rfl) ?_
    rw [hR, hB]
    exact slot_plain _ rfl ⟨rfl, rfl⟩
  have no : ∀ {b : Bool} {A D : Prop}, b = false → D → bcase b A D := fun hb hd => bcI (fun h => by rw [hb] at h; cases h) fun h => hd
  exact no (by simp) (no (by simp) (no (by simp) (no (by simp) (no (by simp) (no (by simp) (no (by simp) fin))))))

theorem wide_p (z : Nz e) (h : HasP e i j r1 r2 H) : ICalls Pr 7 [endP e i j] H (fun r H' => r = .ret (.bool (wideS e)) ∧ H' = H) := by
  rw [← endP_at z.z]
  exact liftRo (more := []) rfl rfl ((wide_ok z.wf rfl rfl).mono fun r H' h => h.1) h.has

end
end Go.Proofs.Ytoikiogaiikheaa.Sess

/- What the two Sends and Ticks come to is the same. -/
set_option linter.unusedVariables false
set_option linter.unusedSimpArgs false
namespace Go.Proofs.Ytoikiogaiikheaa.Sess
open Go Go.RowKit Ide Go.Proofs

def Inc (hi : Int) : Int → List (Int × ByteArray) → Prop
  | _, [] => True
  | lo, x :: l => lo ≤ x.1 ∧ x.1 < hi ∧ Inc hi (x.1 + 1) l
def lk (n : Int) : List (Int × ByteArray) → Option ByteArray
  | [] => none
  | x :: l => if x.1 = n then some x.2 else lk n l
theorem lk_none {hi n : Int} : ∀ {l : List (Int × ByteArray)} {lo : Int}, Inc hi lo l → n < lo → lk n l = none
  | [], _, _, _ => rfl
  | x :: l, lo, ⟨h1, h2, h3⟩, hn => by
    rw [lk, if_neg (by omega)]
    exact lk_none h3 (by omega)
theorem Inc.mono {hi : Int} : ∀ {l : List (Int × ByteArray)} {lo lo' : Int}, Inc hi lo l → lo' ≤ lo → Inc hi lo' l
  | [], _, _, _, _ => trivial
  | x :: l, lo, lo', ⟨h1, h2, h3⟩, h => ⟨by omega, h2, h3⟩
theorem foldl_lk {hi n : Int} : ∀ (l : List (Int × ByteArray)) (lo : Int) (f : Int → Option ByteArray), Inc hi lo l → (l.foldl (fun f x => upd f x.1 x.2) f) n = (match lk n l with | some s => some s | none => f n)
  | [], _, f, _ => rfl
  | x :: l, lo, f, ⟨h1, h2, h3⟩ => by
    rw [List.foldl_cons, foldl_lk l (x.1 + 1) _ h3, lk]
    by_cases h : x.1 = n
    · rw [if_pos h, lk_none h3 (by omega)]
      simp only [upd, if_pos h.symm]
    · rw [if_neg h]
      cases lk n l with
      | some s => rfl
      | none => exact if_neg (fun hh : n = x.1 => h hh.symm)
theorem insF_lk {hi lo : Int} {l : List (Int × ByteArray)} (h : Inc hi lo l) (n : Int) : insF l n = lk n l := by
  unfold insF
  rw [foldl_lk l lo _ h]
  cases lk n l <;> rfl
theorem fI_inc {w : Int} (hw : 0 ≤ w ∧ w ≤ 1000000000) : ∀ (l : List (Int × ByteArray)) (lo : Int), 0 ≤ lo → fI w lo l = true → Inc (w + 4) lo l
  | [], _, _, _ => trivial
  | x :: l, lo, hlo, h => by
    simp only [fI, Bool.and_eq_true, Bool.not_eq_true', decide_eq_false_iff_not] at h
    obtain ⟨⟨⟨h1, h2⟩, h3⟩, h4⟩ := h
    rw [wrap_i64 (x := w + 4) (by omega) (by omega)] at h2
    have h5 : x.1 < 1000000000 ∧ x.1 < w + 4 := by
      revert h2
      split <;> intro h2 <;> omega
    rw [wrap_i64 (by omega) (by omega)] at h4
    exact ⟨by omega, h5.2, fI_inc hw l _ (by omega) h4⟩

theorem numJ_eq {w j : Int} (hw : 0 ≤ w ∧ w ≤ 1000000000) (hj : 0 ≤ j ∧ j ≤ 4) : numJ w j = w + 1 + j := by
  unfold numJ
  rw [wrap_i64 (x := w + 1) (by omega) (by omega), wrap_i64 (by omega) (by omega)]
theorem reb_lk {w : Int} {f : Int → Option ByteArray} (hw : 0 ≤ w ∧ w ≤ 1000000000) : ∀ (c : Nat) (j : Int) (l : List (Int × ByteArray)), 0 ≤ j → j + c ≤ 4 → Inc (w + 1 + j + c) (w + 1 + j) l → (∀ n, w + 1 + j ≤ n → f n = lk n l) → reb f w j c = l
  | 0, j, [], _, _, _, _ => rfl
  | 0, j, x :: l, _, _, ⟨h1, h2, _⟩, _ => by exfalso; simp at h2; omega
  | c + 1, j, [], h0, h1, h2, h3 => by
    rw [reb, numJ_eq hw (by omega), h3 _ (Int.le_refl _)]
    show reb f w (j + 1) c = []
    exact reb_lk hw c (j + 1) [] (by omega) (by omega) trivial fun n hn => h3 n (by omega)
  | c + 1, j, x :: l, h0, h1, ⟨h2, h4, h5⟩, h3 => by
    rw [reb, numJ_eq hw (by omega), h3 _ (Int.le_refl _)]
    have e1 : w + 1 + (j + 1) + (c : Int) = w + 1 + j + ((c + 1 : Nat) : Int) := by omega
    by_cases hx : x.1 = w + 1 + j
    · rw [lk, if_pos hx]
      show (w + 1 + j, x.2) :: reb f w (j + 1) c = x :: l
      rw [reb_lk hw c (j + 1) l (by omega) (by omega) (by rw [e1]; rw [hx] at h5; exact h5.mono (by omega)) fun n hn => by rw [h3 n (by omega), lk, if_neg (by omega)], ← hx]
    · rw [lk_none (lo := w + 1 + (j + 1)) (l := x :: l) (hi := w + 1 + j + ((c + 1 : Nat) : Int)) ⟨by omega, h4, h5⟩ (by omega)]
      show reb f w (j + 1) c = x :: l
      exact reb_lk hw c (j + 1) (x :: l) (by omega) (by omega) ⟨by omega, by rw [e1]; exact h4, by rw [e1]; exact h5⟩ fun n hn => h3 n (by omega)

theorem hasI_lk (num : Int) : ∀ (l : List (Int × ByteArray)) (i : Nat), decide (hasI num i l ≥ 0) = (lk num l).isSome
  | [], i => by simp [hasI, lk]
  | x :: l, i => by
    rw [hasI, lk]
    by_cases h : x.1 = num
    · rw [if_pos h, if_pos h]
      simp
    · rw [if_neg h, if_neg h]
      exact hasI_lk num l (i + 1)

theorem fine_want {e : SE} (h : fineS e = true) : (0 ≤ e.want ∧ e.want ≤ 1000000000) ∧ Inc (e.want + 4) (e.want + 1) e.ins := by
  simp only [fineS, fine1S, Bool.and_eq_true, Bool.not_eq_true', decide_eq_false_iff_not] at h
  obtain ⟨⟨⟨⟨⟨⟨h1, hw1⟩, hw2⟩, _⟩, hI⟩, _⟩, _⟩ := h
  have hw : 0 ≤ e.want ∧ e.want ≤ 1000000000 := by omega
  refine ⟨hw, ?_⟩
  rw [wrap_i64 (by omega) (by omega)] at hI
  exact fI_inc hw _ _ (by omega) hI
theorem bits_eq {e : SE} (h : fineS e = true) : bitsF (insF e.ins) e.want = bitsS e := by
  obtain ⟨hw, hI⟩ := fine_want h
  have hb1 : ∀ j, fb (insF e.ins) e.want j = hb e j := fun j => by
    unfold fb hb
    rw [insF_lk hI, hasI_lk]
  unfold bitsF bitsS
  rw [hb1, hb1, hb1]
theorem reb_eq {e : SE} (h : fineS e = true) : reb (insF e.ins) e.want 0 3 = e.ins := by
  obtain ⟨hw, hI⟩ := fine_want h
  refine reb_lk hw 3 0 e.ins (by omega) (by omega) ?_ fun n _ => insF_lk hI n
  rw [show e.want + 1 + 0 + ((3 : Nat) : Int) = e.want + 4 by omega, show e.want + 1 + 0 = e.want + 1 by omega]
  exact hI

theorem ssE_eq {e : SE} {text : ByteArray} (h : fineS e = true) : ssE e text = more e text := by
  unfold ssE shutE
  have h1 : reb (insF e.ins) (more e text).want 0 3 = (more e text).ins := reb_eq h
  rw [h1]
theorem textAt_at (pre : List (ByteArray × Bool)) (x : ByteArray × Bool) (post : List (ByteArray × Bool)) : textAt (pre ++ x :: post) ((pre.length : Nat) : Int) = x.1 := by
  unfold textAt
  simp
theorem ssP_eq {e : SE} {text : ByteArray} (h : fineS e = true) : ssP e text = sendP e text := by
  unfold ssP sendP
  rw [ssE_eq h]
  have hd : dataX (insF e.ins) (more e text) ((e.outs.length : Nat) : Int) text = dataS (more e text) ((e.outs.length : Nat) : Int) text := by
    have := bits_eq h
    unfold dataX dataS
    rw [show bitsF (insF e.ins) (more e text).want = bitsF (insF e.ins) e.want from rfl, this]
    rfl
  have ht : textAt (more e text).outs ((e.outs.length : Nat) : Int) = text := textAt_at e.outs (text, false) []
  have hm : (more e text).outs.length = e.outs.length + 1 := by simp [more]
  have hph : (more e text).phase = e.phase := rfl
  unfold eachP fromN
  by_cases hp : e.phase = 3
  · by_cases hl : e.outs.length < 4
    · have f1 : flyS (more e text) = ((e.outs.length + 1 : Nat) : Int) := by
        unfold flyS
        rw [if_pos (by rw [hph]; exact hp), hm, if_neg (by omega)]
      have f2 : flyS e = ((e.outs.length : Nat) : Int) := by
        unfold flyS
        rw [if_pos hp, if_neg (by omega)]
      rw [f1, f2, if_pos rfl, Int.toNat_natCast, show (((e.outs.length + 1 : Nat) : Int) - ((e.outs.length : Nat) : Int)).toNat = 1 by omega]
      show [dataX (insF e.ins) (more e text) ((e.outs.length : Nat) : Int) (textAt (more e text).outs ((e.outs.length : Nat) : Int))] = _
      rw [ht, hd]
    · have f1 : flyS (more e text) = 4 := by
        unfold flyS
        rw [if_pos (by rw [hph]; exact hp), hm]
        split <;> omega
      have f2 : flyS e = 4 := by
        unfold flyS
        rw [if_pos hp]
        split <;> omega
      rw [f1, f2, if_neg (by omega)]
      rfl
  · have f1 : flyS (more e text) = 0 := by
      unfold flyS
      rw [if_neg (by rw [hph]; exact hp)]
    have f2 : flyS e = 0 := by
      unfold flyS
      rw [if_neg hp]
    rw [f1, f2, if_neg (by omega)]
    rfl

theorem tick_each {e : SE} (h : fineS e = true) (n : Int) : ∀ (post pre : List (ByteArray × Bool)), e.outs = pre ++ post → eachP (insF e.ins) e (tickN n pre.length post) = tickP e n pre.length post
  | [], pre, _ => rfl
  | x :: post, pre, hp => by
    have ih := tick_each h n post (pre ++ [x]) (by rw [hp]; simp)
    rw [show (pre ++ [x]).length = pre.length + 1 by simp] at ih
    rw [tickN, tickP]
    split
    · split
      · exact ih
      · show dataX (insF e.ins) e ((pre.length : Nat) : Int) (textAt e.outs ((pre.length : Nat) : Int)) :: eachP (insF e.ins) e (tickN n (pre.length + 1) post) = _
        rw [ih]
        congr 1
        unfold dataX dataS
        rw [bits_eq h, hp, textAt_at]
    · rfl
theorem stick_eq {e : SE} (h : fineS e = true) : stickP e = tickL e := by
  unfold stickP tickL
  by_cases hp : e.phase = 3
  · rw [if_pos hp, if_pos hp]
    have h1 := tick_each h (flyS e) e.outs [] rfl
    have h2 : reportX (insF e.ins) e = reportS e := by
      unfold reportX reportS
      rw [bits_eq h]
    rw [h2]
    congr 1
  · rw [if_neg hp, if_neg hp]

end Go.Proofs.Ytoikiogaiikheaa.Sess
