/- Twin; an end with one more message. -/
import Derived.Test.YtoikiogaiikheaaSndAR
import Derived.Test.YtoikiogaiikheaaSndAT
set_option linter.unusedSectionVars false
set_option linter.unusedVariables false
set_option linter.unusedSimpArgs false
set_option maxRecDepth 10000
namespace Go.Proofs.Ytoikiogaiikheaa.Sess
open Go Go.RowKit Ide Go.Proofs

/-- An end as a value, its lists at a and b; an empty list may be nil. -/
def endP (e : SE) (a b : Nat) : Value := .agg ⟨[.int .i64 e.life, .int .i64 e.peer, .int .i64 e.phase, .int .i64 e.base, .slice (some ⟨a, 0, some 4⟩) e.outs.length e.outs.length, .int .i64 e.want, .slice (some ⟨b, 0, some 4⟩) e.ins.length e.ins.length]⟩
theorem endP_at {e : SE} (h : e.oz = false ∧ e.iz = false) (a b : Nat) : endAt e a b = endP e a b := by
  obtain ⟨life, peer, phase, base, want, oz, iz, outs, ins⟩ := e
  obtain ⟨h1, h2⟩ := h
  cases h1
  cases h2
  rfl
theorem mv_endP {σ : Nat → Option Nat} {e : SE} {a b a' b' : Nat} (h1 : σ a = some a') (h2 : σ b = some b') : mvV σ (endP e a b) = endP e a' b' := by
  simp only [endP, mvV, mvV.go, mvV.goL, h1, h2]

theorem cellsAt_outC {H : IHeap} {i : Nat} {l : List (ByteArray × Bool)} {r : Bool} (h : H[i]? = some (.cells (outC l) r)) : cellsAt H i 0 (l.length * 2) = some (outC l) := by
  unfold cellsAt
  rw [h]
  simp only [outC_len, Nat.zero_add, Nat.le_refl, if_true, outC_all]
theorem cellsAt_inC {H : IHeap} {i : Nat} {l : List (Int × ByteArray)} {r : Bool} (h : H[i]? = some (.cells (inC l) r)) : cellsAt H i 0 (l.length * 2) = some (inC l) := by
  unfold cellsAt
  rw [h]
  simp only [inC_len, Nat.zero_add, Nat.le_refl, if_true, inC_all]

theorem twin_ok {e : SE} {H : IHeap} {i j : Nat} {r1 r2 : Bool} (h1 : H[i]? = some (.cells (outC e.outs) r1)) (h2 : H[j]? = some (.cells (inC e.ins) r2)) (n1 : e.outs.length ≤ 1000) (n2 : e.ins.length ≤ 1000) :
    ICalls Pr 37 [endP e i j] H (fun r H' => r = .ret (endP e H.length (H.length + 1)) ∧ H' = H ++ [.cells (outC e.outs) true, .cells (inC e.ins) true]) := by
  refine icalls_sy (hs := []) 40 mixed sc0_ok (by kernel_rfl) (by kernel_rfl) ?_
  obtain ⟨R, hR⟩ : ∃ R, R = (slotR H.length fun r H' => r = .ret (endP e H.length (H.length + 1)) ∧ H' = H ++ [.cells (outC e.outs) true, .cells (inC e.ins) true]) := ⟨_, rfl⟩
  rw [← hR]
  refine Eq.mp (α := (((0 + e.outs.length) * 24 ≤ 70368744177664 ∧ 0 + e.outs.length ≤ 70368744177664) ∧ (0 = 0 ∧ (∃ cs1 : List Value, Ide.cellsAt (H.map (mvO shU)) i 0 (e.outs.length * 2) = some cs1 ∧ (((0 + e.ins.length) * 24 ≤ 70368744177664 ∧ 0 + e.ins.length ≤ 70368744177664) ∧ (0 = 0 ∧ (∃ cs2 : List Value, Ide.cellsAt (H.map (mvO shU)) j 0 (e.ins.length * 2) = some cs2 ∧ (R (IEnd.ret (Value.agg ⟨[Value.int IntKind.i64 e.life, Value.int IntKind.i64 e.peer, Value.int IntKind.i64 e.phase, Value.int IntKind.i64 e.base, Value.slice (some ⟨2, 0, some 4⟩) (0 + e.outs.length) (0 + e.outs.length), Value.int IntKind.i64 e.want, Value.slice (some ⟨3, 0, some 4⟩) (0 + e.ins.length) (0 + e.ins.length)]⟩)) (Ide.pad 64 [.cells [Value.int IntKind.i64 e.life, Value.int IntKind.i64 e.peer, Value.int IntKind.i64 e.phase, Value.int IntKind.i64 e.base, Value.slice (some ⟨2, 0, some 4⟩) (0 + e.outs.length) (0 + e.outs.length), Value.int IntKind.i64 e.want, Value.slice (some ⟨3, 0, some 4⟩) (0 + e.ins.length) (0 + e.ins.length)] true, .cells [Value.int IntKind.i64 e.life, Value.int IntKind.i64 e.peer, Value.int IntKind.i64 e.phase, Value.int IntKind.i64 e.base, Value.slice (some ⟨2, 0, some 4⟩) (0 + e.outs.length) (0 + e.outs.length), Value.int IntKind.i64 e.want, Value.slice (some ⟨3, 0, some 4⟩) (0 + e.ins.length) (0 + e.ins.length)] true, .cells (([] : List Value) ++ cs1) true, .cells (([] : List Value) ++ cs2) true] (H.map (mvO shU))))))))))) (by kernel_rfl) ?_
  refine ⟨⟨by omega, by omega⟩, rfl, outC e.outs, cellsAt_outC (base_plain h1 (ground_outC _)), ⟨by omega, by omega⟩, rfl, inC e.ins, cellsAt_inC (base_plain h2 (ground_inC _)), ?_⟩
  rw [hR]
  refine slot_news _ (endP e H.length (H.length + 1)) [2, 3] [.cells (outC e.outs) true, .cells (inC e.ins) true] (by decide) rfl (newsAt_plain rfl (ground_outC e.outs) (newsAt_plain rfl (ground_inC e.ins) trivial)) ?_ ⟨rfl, rfl⟩
  rw [Nat.zero_add, Nat.zero_add]
  exact Less.same rfl

end Go.Proofs.Ytoikiogaiikheaa.Sess

/- What an end with one more message is, by the reference. -/
set_option linter.unusedVariables false
set_option linter.unusedSimpArgs false
set_option maxRecDepth 10000
namespace Go.Proofs.Ytoikiogaiikheaa.Sess
open Go Go.RowKit Ide Go.Proofs

/-- The lists of an end are there. -/
structure HasP (e : SE) (i j : Nat) (r1 r2 : Bool) (H : IHeap) : Prop where
  out : H[i]? = some (.cells (outC e.outs) r1)
  inn : H[j]? = some (.cells (inC e.ins) r2)
  ne : i ≠ j
structure Nz (e : SE) : Prop where
  z : e.oz = false ∧ e.iz = false
  on : e.outs.length ≤ 1000
  inn : e.ins.length ≤ 1000
theorem Nz.wf {e : SE} (h : Nz e) : Wf e := ⟨fun h1 => (by rw [h.z.1] at h1; cases h1), fun h1 => (by rw [h.z.2] at h1; cases h1), (by have := h.on; omega), (by have := h.inn; omega)⟩
theorem HasP.has {e : SE} {i j : Nat} {r1 r2 : Bool} {H : IHeap} (h : HasP e i j r1 r2 H) : Has e i j r1 r2 H := ⟨fun _ => h.out, fun _ => h.inn, fun _ _ => h.ne⟩

section
variable {e : SE} {i j : Nat} {r1 r2 : Bool} {H : IHeap}
theorem good_p (z : Nz e) (h : HasP e i j r1 r2 H) : ICalls Pr 22 [endP e i j] H (fun r H' => r = .ret (.bool (goodS e)) ∧ H' = H) := by rw [← endP_at z.z]; exact good_at z.wf h.has
theorem fine_p (z : Nz e) (h : HasP e i j r1 r2 H) : ICalls Pr 36 [endP e i j] H (fun r H' => r = .ret (.bool (fineS e)) ∧ H' = H) := by rw [← endP_at z.z]; exact fine_at z.wf h.has
theorem fly_p (z : Nz e) (h : HasP e i j r1 r2 H) : ICalls Pr 38 [endP e i j] H (fun r H' => r = .ret (.int .i64 (flyS e)) ∧ H' = H) := by rw [← endP_at z.z]; exact fly_at e h.has
theorem greet_p (z : Nz e) (h : HasP e i j r1 r2 H) : ICalls Pr 40 [endP e i j] H (fun r H' => r = .ret (pktV (greetS e)) ∧ H' = H) := by rw [← endP_at z.z]; exact greet_ok h.has
theorem report_p (z : Nz e) (h : HasP e i j r1 r2 H) : ICalls Pr 41 [endP e i j] H (fun r H' => r = .ret (pktV (reportS e)) ∧ H' = H) := by rw [← endP_at z.z]; exact report_ok z.wf h.has

/-- The text of a message. -/
def textAt (l : List (ByteArray × Bool)) (n : Int) : ByteArray := match l[n.toNat]? with | some x => x.1 | none => noText
theorem data_p (z : Nz e) {n : Int} (hn : 0 ≤ n ∧ n < e.outs.length) (h : HasP e i j r1 r2 H) : ICalls Pr 39 [endP e i j, .int .i64 n] H (fun r H' => r = .ret (pktV (dataS e n (textAt e.outs n))) ∧ H' = H) := by
  rw [← endP_at z.z]
  have hlt : n.toNat < e.outs.length := by omega
  have hp : e.outs = e.outs.take n.toNat ++ e.outs[n.toNat] :: e.outs.drop (n.toNat + 1) := by rw [List.getElem_cons_drop, List.take_append_drop]
  have hl : (e.outs.take n.toNat).length = n.toNat := by simp; omega
  have h1 := data_ok z.wf hp h.has
  rw [hl, show ((n.toNat : Nat) : Int) = n by omega] at h1
  have e1 : textAt e.outs n = e.outs[n.toNat].1 := by unfold textAt; rw [List.getElem?_eq_getElem hlt]
  rw [e1]
  exact h1
end

/-- An end with one more message. -/
def more (e : SE) (text : ByteArray) : SE := { e with outs := e.outs ++ [(text, false)] }
theorem more_nz {e : SE} (z : Nz e) (h : e.outs.length ≤ 999) (text : ByteArray) : Nz (more e text) := ⟨z.z, by simp [more]; omega, z.inn⟩

/-- The packets of Send. -/
def sendP (e : SE) (text : ByteArray) : List Pkt := if flyS (more e text) = ((e.outs.length + 1 : Nat) : Int) then [dataS (more e text) ((e.outs.length : Nat) : Int) text] else []
theorem textAt_more (e : SE) (text : ByteArray) : textAt (more e text).outs ((e.outs.length : Nat) : Int) = text := by
  unfold textAt more
  simp
def pksC (l : List Pkt) : List Value := l.flatMap pktW
def pksV (l : List Pkt) (k : Nat) : Value := .slice (some ⟨k, 0, some 14⟩) l.length l.length

def scSendA (e : SE) (i j : Nat) (r1 r2 : Bool) (text : ByteArray) (n : Nat) : SCall :=
  scC 22 (cR [endP e (i + 64) (j + 64)] (HasP e (i + 64) (j + 64) r1 r2) (.bool (goodS e)))
  (scC 37 (cN [endP e (i + 64) (j + 64)] (HasP e (i + 64) (j + 64) r1 r2) (fun n => endP e n (n + 1)) (fun _ => [.cells (outC e.outs) true, .cells (inC e.ins) true]))
  (scC 38 (cR [endP (more e text) 3 (n + 1 + 64)] (HasP (more e text) 3 (n + 1 + 64) true true) (.int .i64 (flyS (more e text))))
  (scC 39 (cI (endP (more e text) 3 (n + 1 + 64)) (fun k H => (0 ≤ k ∧ k < ((e.outs.length + 1 : Nat) : Int)) ∧ HasP (more e text) 3 (n + 1 + 64) true true H) (fun k => pktV (dataS (more e text) k (textAt (more e text).outs k)))) sc0)))

theorem scSendA_ok {e : SE} (z : Nz e) (hl : e.outs.length ≤ 999) {i j : Nat} {r1 r2 : Bool} {text : ByteArray} {n : Nat} : SOk Pr (scSendA e i j r1 r2 text n) :=
  scC_ok (cR_ok fun H h => good_p z h) (scC_ok (cN_ok fun H h => twin_ok h.out h.inn z.on z.inn) (scC_ok (cR_ok fun H h => fly_p (more_nz z hl text) h)
    (scC_ok (cI_ok fun k H h => data_p (more_nz z hl text) (by have := h.1; simp only [more, List.length_append, List.length_cons, List.length_nil]; exact this) h.2) sc0_ok)))

def zeroE : Value := .agg ⟨[.int .i64 0, .int .i64 0, .int .i64 0, .int .i64 0, .slice none 0 0, .int .i64 0, .slice none 0 0]⟩
/-- The error of Send; 0: none. -/
def sendE (e : SE) (ok : Bool) (text : ByteArray) : Int :=
  if ok = false then 2 else if ((text.size : Nat) : Int) > 20 ∨ ((e.outs.length : Nat) : Int) = 12 ∨ IntKind.wrap .i64 (e.base + ((e.outs.length : Nat) : Int)) = 1000000000 then 3 else 0

/-- What Send comes to. -/
def SendR (e : SE) (ok : Bool) (text : ByteArray) (pks : List Pkt) (H : IHeap) (r : IEnd) (H' : IHeap) : Prop :=
  if sendE e ok text = 0 then ∃ objs i j k, H' = H ++ objs ∧ r = .ret (.tuple ⟨[endP (more e text) i j, pksV pks k, .int .i64 0]⟩) ∧ H'[i]? = some (.cells (outC (more e text).outs) true) ∧ H'[j]? = some (.cells (inC e.ins) true) ∧ H'[k]? = some (.cells (pksC pks) true) ∧ (H.length ≤ i ∧ H.length ≤ j ∧ H.length ≤ k)
  else ∃ objs, H' = H ++ objs ∧ r = .ret (.tuple ⟨[zeroE, .slice none 0 0, .int .i64 (sendE e ok text)]⟩)

theorem send_ok {e : SE} (z : Nz e) (hl : e.outs.length ≤ 900) {i j : Nat} {r1 r2 : Bool} {H : IHeap} (h : HasP e i j r1 r2 H) (text : ByteArray) :
    ICalls Pr 14 [endP e i j, .string text] H (SendR e (goodS e) text (sendP e text) H) := by
  refine icalls_sy (hs := []) (sc := scSendA e i j r1 r2 text (H.map (mvO shU)).length) 40 mixed (scSendA_ok z (by omega)) (by kernel_rfl) (by kernel_rfl) ?_
  obtain ⟨R, hR⟩ : ∃ R, R = slotR H.length (SendR e (goodS e) text (sendP e text) H) := ⟨_, rfl⟩
  obtain ⟨B, hB⟩ : ∃ B, B = H.map (mvO shU) := ⟨_, rfl⟩
  rw [← hR, ← hB]
  have g1 : B[i]? = some (.cells (outC e.outs) r1) := by rw [hB]; exact base_plain h.out (ground_outC _)
  have g2 : B[j]? = some (.cells (inC e.ins) r2) := by rw [hB]; exact base_plain h.inn (ground_inC _)
  have gH : ∀ l, HasP e (i + 64) (j + 64) r1 r2 (pad 64 l B) := fun l => ⟨by rw [pad_high]; exact g1, by rw [pad_high]; exact g2, by have := h.ne; omega⟩
  have hw : IntKind.wrap .i64 (((e.outs.length + 1 : Nat) : Int) - 1) = ((e.outs.length : Nat) : Int) := by rw [wrap_i64 (by omega) (by omega)]; omega
  have err : ∀ (l : List IObj) (c : Int), sendE e (goodS e) text = c → c ≠ 0 → R (.ret (.tuple ⟨[zeroE, .slice none 0 0, .int .i64 c]⟩)) (pad 64 l B) := by
    intro l c h1 h2
    rw [hR, hB]
    refine slot_same _ (.tuple ⟨[zeroE, .slice none 0 0, .int .i64 c]⟩) rfl ?_
    unfold SendR
    rw [h1, if_neg h2]
    exact ⟨[], by simp, rfl⟩
  refine Eq.mp (α := (([Value.agg ⟨[Value.int IntKind.i64 e.life, Value.int IntKind.i64 e.peer, Value.int IntKind.i64 e.phase, Value.int IntKind.i64 e.base, Value.slice (some ⟨(i + 64), 0, some 4⟩) e.outs.length e.outs.length, Value.int IntKind.i64 e.want, Value.slice (some ⟨(j + 64), 0, some 4⟩) e.ins.length e.ins.length]⟩] : List Value) = ([endP e (i + 64) (j + 64)] : List Value) ∧ (HasP e (i + 64) (j + 64) r1 r2 (Ide.pad 64 [.cells [Value.int IntKind.i64 e.life, Value.int IntKind.i64 e.peer, Value.int IntKind.i64 e.phase, Value.int IntKind.i64 e.base, Value.slice (some ⟨(i + 64), 0, some 4⟩) e.outs.length e.outs.length, Value.int IntKind.i64 e.want, Value.slice (some ⟨(j + 64), 0, some 4⟩) e.ins.length e.ins.length] true, .cells [Value.int IntKind.i64 0, Value.int IntKind.i64 0, Value.int IntKind.i64 0, Value.int IntKind.i64 0, Value.slice none 0 0, Value.int IntKind.i64 0, Value.slice none 0 0] true] B)) ∧ (Ide.bcase (!(goodS e))
 (R (IEnd.ret (Value.tuple ⟨[Value.agg ⟨[Value.int IntKind.i64 0, Value.int IntKind.i64 0, Value.int IntKind.i64 0, Value.int IntKind.i64 0, Value.slice none 0 0, Value.int IntKind.i64 0, Value.slice none 0 0]⟩, Value.slice none 0 0, Value.int IntKind.i64 2]⟩)) (Ide.pad 64 [.cells [Value.int IntKind.i64 e.life, Value.int IntKind.i64 e.peer, Value.int IntKind.i64 e.phase, Value.int IntKind.i64 e.base, Value.slice (some ⟨(i + 64), 0, some 4⟩) e.outs.length e.outs.length, Value.int IntKind.i64 e.want, Value.slice (some ⟨(j + 64), 0, some 4⟩) e.ins.length e.ins.length] true, .cells [Value.int IntKind.i64 0, Value.int IntKind.i64 0, Value.int IntKind.i64 0, Value.int IntKind.i64 0, Value.slice none 0 0, Value.int IntKind.i64 0, Value.slice none 0 0] true] B))
 (Ide.bcase (decide (((ByteArray.size text : Nat) : Int) > 20))
 (R (IEnd.ret (Value.tuple ⟨[Value.agg ⟨[Value.int IntKind.i64 0, Value.int IntKind.i64 0, Value.int IntKind.i64 0, Value.int IntKind.i64 0, Value.slice none 0 0, Value.int IntKind.i64 0, Value.slice none 0 0]⟩, Value.slice none 0 0, Value.int IntKind.i64 3]⟩)) (Ide.pad 64 [.cells [Value.int IntKind.i64 e.life, Value.int IntKind.i64 e.peer, Value.int IntKind.i64 e.phase, Value.int IntKind.i64 e.base, Value.slice (some ⟨(i + 64), 0, some 4⟩) e.outs.length e.outs.length, Value.int IntKind.i64 e.want, Value.slice (some ⟨(j + 64), 0, some 4⟩) e.ins.length e.ins.length] true, .cells [Value.int IntKind.i64 0, Value.int IntKind.i64 0, Value.int IntKind.i64 0, Value.int IntKind.i64 0, Value.slice none 0 0, Value.int IntKind.i64 0, Value.slice none 0 0] true] B))
 (Ide.bcase (((e.outs.length : Nat) : Int) == 12)
 (R (IEnd.ret (Value.tuple ⟨[Value.agg ⟨[Value.int IntKind.i64 0, Value.int IntKind.i64 0, Value.int IntKind.i64 0, Value.int IntKind.i64 0, Value.slice none 0 0, Value.int IntKind.i64 0, Value.slice none 0 0]⟩, Value.slice none 0 0, Value.int IntKind.i64 3]⟩)) (Ide.pad 64 [.cells [Value.int IntKind.i64 e.life, Value.int IntKind.i64 e.peer, Value.int IntKind.i64 e.phase, Value.int IntKind.i64 e.base, Value.slice (some ⟨(i + 64), 0, some 4⟩) e.outs.length e.outs.length, Value.int IntKind.i64 e.want, Value.slice (some ⟨(j + 64), 0, some 4⟩) e.ins.length e.ins.length] true, .cells [Value.int IntKind.i64 0, Value.int IntKind.i64 0, Value.int IntKind.i64 0, Value.int IntKind.i64 0, Value.slice none 0 0, Value.int IntKind.i64 0, Value.slice none 0 0] true] B))
 (Ide.bcase ((IntKind.wrap .i64 (e.base + ((e.outs.length : Nat) : Int))) == 1000000000)
 (R (IEnd.ret (Value.tuple ⟨[Value.agg ⟨[Value.int IntKind.i64 0, Value.int IntKind.i64 0, Value.int IntKind.i64 0, Value.int IntKind.i64 0, Value.slice none 0 0, Value.int IntKind.i64 0, Value.slice none 0 0]⟩, Value.slice none 0 0, Value.int IntKind.i64 3]⟩)) (Ide.pad 64 [.cells [Value.int IntKind.i64 e.life, Value.int IntKind.i64 e.peer, Value.int IntKind.i64 e.phase, Value.int IntKind.i64 e.base, Value.slice (some ⟨(i + 64), 0, some 4⟩) e.outs.length e.outs.length, Value.int IntKind.i64 e.want, Value.slice (some ⟨(j + 64), 0, some 4⟩) e.ins.length e.ins.length] true, .cells [Value.int IntKind.i64 0, Value.int IntKind.i64 0, Value.int IntKind.i64 0, Value.int IntKind.i64 0, Value.slice none 0 0, Value.int IntKind.i64 0, Value.slice none 0 0] true] B))
 (([Value.agg ⟨[Value.int IntKind.i64 e.life, Value.int IntKind.i64 e.peer, Value.int IntKind.i64 e.phase, Value.int IntKind.i64 e.base, Value.slice (some ⟨(i + 64), 0, some 4⟩) e.outs.length e.outs.length, Value.int IntKind.i64 e.want, Value.slice (some ⟨(j + 64), 0, some 4⟩) e.ins.length e.ins.length]⟩] : List Value) = ([endP e (i + 64) (j + 64)] : List Value) ∧ (HasP e (i + 64) (j + 64) r1 r2 (Ide.pad 64 [.cells [Value.int IntKind.i64 e.life, Value.int IntKind.i64 e.peer, Value.int IntKind.i64 e.phase, Value.int IntKind.i64 e.base, Value.slice (some ⟨(i + 64), 0, some 4⟩) e.outs.length e.outs.length, Value.int IntKind.i64 e.want, Value.slice (some ⟨(j + 64), 0, some 4⟩) e.ins.length e.ins.length] true, .cells [Value.int IntKind.i64 0, Value.int IntKind.i64 0, Value.int IntKind.i64 0, Value.int IntKind.i64 0, Value.slice none 0 0, Value.int IntKind.i64 0, Value.slice none 0 0] true] B)) ∧ (((e.outs.length + 1) * 24 ≤ 70368744177664 ∧ e.outs.length + 1 ≤ 70368744177664) ∧ (∃ cs1 : List Value, Ide.cellsAt (B ++ [.cells (outC e.outs) true, .cells (inC e.ins) true]) (List.length B) 0 (e.outs.length * 2) = some cs1 ∧ (0 + 1 * 2 ≤ List.length ([Value.string text, Value.bool false] : List Value) ∧ ((2 = 2 ∧ true = true) ∧ e.outs.length < (e.outs.length + 1) ∧ (∃ cs : List Value, (B ++ [.cells (outC e.outs) true, .cells (inC e.ins) true] : IHeap)[List.length B]? = some (.cells cs true)) ∧ (([Value.agg ⟨[Value.int IntKind.i64 e.life, Value.int IntKind.i64 e.peer, Value.int IntKind.i64 e.phase, Value.int IntKind.i64 e.base, Value.slice (some ⟨3, 0, some 4⟩) (e.outs.length + 1) (e.outs.length + 1), Value.int IntKind.i64 e.want, Value.slice (some ⟨((List.length B + 1) + 64), 0, some 4⟩) e.ins.length e.ins.length]⟩] : List Value) = ([endP (more e text) 3 (List.length B + 1 + 64)] : List Value) ∧ (HasP (more e text) 3 ((List.length B + 1) + 64) true true (Ide.pad 64 [.cells [Value.int IntKind.i64 e.life, Value.int IntKind.i64 e.peer, Value.int IntKind.i64 e.phase, Value.int IntKind.i64 e.base, Value.slice (some ⟨3, 0, some 4⟩) (e.outs.length + 1) (e.outs.length + 1), Value.int IntKind.i64 e.want, Value.slice (some ⟨((List.length B + 1) + 64), 0, some 4⟩) e.ins.length e.ins.length] true, .cells [Value.int IntKind.i64 0, Value.int IntKind.i64 0, Value.int IntKind.i64 0, Value.int IntKind.i64 0, Value.slice none 0 0, Value.int IntKind.i64 0, Value.slice none 0 0] true, .cells [Value.string text, Value.bool false] true, .cells ((cs1 : List Value) ++ [Value.string text, Value.bool false]) true] (List.set (B ++ [.cells (outC e.outs) true, .cells (inC e.ins) true]) (List.length B) (.dead)))) ∧ (True ∧ ((some (Value.slice (some ⟨3, 0, some 4⟩) (e.outs.length + 1) (e.outs.length + 1)) : Option Value) = some (Value.slice (some ⟨3, 0, some 4⟩) (e.outs.length + 1) (e.outs.length + 1)) ∧ (Ide.bcase ((flyS (more e text)) == ((e.outs.length + 1 : Nat) : Int))
 ((Value.agg ⟨[Value.int IntKind.i64 e.life, Value.int IntKind.i64 e.peer, Value.int IntKind.i64 e.phase, Value.int IntKind.i64 e.base, Value.slice (some ⟨3, 0, some 4⟩) (e.outs.length + 1) (e.outs.length + 1), Value.int IntKind.i64 e.want, Value.slice (some ⟨((List.length B + 1) + 64), 0, some 4⟩) e.ins.length e.ins.length]⟩ = endP (more e text) 3 (List.length B + 1 + 64) ∧ IntKind.i64 = IntKind.i64) ∧ ((0 ≤ (IntKind.wrap .i64 (((e.outs.length + 1 : Nat) : Int) - 1)) ∧ (IntKind.wrap .i64 (((e.outs.length + 1 : Nat) : Int) - 1)) < ((e.outs.length + 1 : Nat) : Int)) ∧ HasP (more e text) 3 ((List.length B + 1) + 64) true true (Ide.pad 64 [.cells [Value.int IntKind.i64 e.life, Value.int IntKind.i64 e.peer, Value.int IntKind.i64 e.phase, Value.int IntKind.i64 e.base, Value.slice (some ⟨3, 0, some 4⟩) (e.outs.length + 1) (e.outs.length + 1), Value.int IntKind.i64 e.want, Value.slice (some ⟨((List.length B + 1) + 64), 0, some 4⟩) e.ins.length e.ins.length] true, .cells [Value.int IntKind.i64 0, Value.int IntKind.i64 0, Value.int IntKind.i64 0, Value.int IntKind.i64 0, Value.slice none 0 0, Value.int IntKind.i64 0, Value.slice none 0 0] true, .cells [Value.string text, Value.bool false] true, .cells ((cs1 : List Value) ++ [Value.string text, Value.bool false]) true] (List.set (B ++ [.cells (outC e.outs) true, .cells (inC e.ins) true]) (List.length B) (.dead)))) ∧ ((some [Value.int IntKind.i64 e.life, Value.int IntKind.i64 e.peer, Value.int IntKind.i64 e.phase, Value.int IntKind.i64 e.base, Value.slice (some ⟨3, 0, some 4⟩) (e.outs.length + 1) (e.outs.length + 1), Value.int IntKind.i64 e.want, Value.slice (some ⟨((List.length B + 1) + 64), 0, some 4⟩) e.ins.length e.ins.length] : Option (List Value)) = some [Value.int IntKind.i64 e.life, Value.int IntKind.i64 e.peer, Value.int IntKind.i64 e.phase, Value.int IntKind.i64 e.base, Value.slice (some ⟨3, 0, some 4⟩) (e.outs.length + 1) (e.outs.length + 1), Value.int IntKind.i64 e.want, Value.slice (some ⟨((List.length B + 1) + 64), 0, some 4⟩) e.ins.length e.ins.length] ∧ ((∃ o : IObj, (some (.cells [Value.int IntKind.i64 ((dataS (more e text) ((IntKind.wrap .i64 (((e.outs.length + 1 : Nat) : Int) - 1))) (textAt (more e text).outs ((IntKind.wrap .i64 (((e.outs.length + 1 : Nat) : Int) - 1))))).kind), Value.int IntKind.i64 ((dataS (more e text) ((IntKind.wrap .i64 (((e.outs.length + 1 : Nat) : Int) - 1))) (textAt (more e text).outs ((IntKind.wrap .i64 (((e.outs.length + 1 : Nat) : Int) - 1))))).src), Value.int IntKind.i64 ((dataS (more e text) ((IntKind.wrap .i64 (((e.outs.length + 1 : Nat) : Int) - 1))) (textAt (more e text).outs ((IntKind.wrap .i64 (((e.outs.length + 1 : Nat) : Int) - 1))))).dst), Value.int IntKind.i64 ((dataS (more e text) ((IntKind.wrap .i64 (((e.outs.length + 1 : Nat) : Int) - 1))) (textAt (more e text).outs ((IntKind.wrap .i64 (((e.outs.length + 1 : Nat) : Int) - 1))))).num), Value.string (dataS (more e text) ((IntKind.wrap .i64 (((e.outs.length + 1 : Nat) : Int) - 1))) (textAt (more e text).outs ((IntKind.wrap .i64 (((e.outs.length + 1 : Nat) : Int) - 1))))).text, Value.int IntKind.i64 ((dataS (more e text) ((IntKind.wrap .i64 (((e.outs.length + 1 : Nat) : Int) - 1))) (textAt (more e text).outs ((IntKind.wrap .i64 (((e.outs.length + 1 : Nat) : Int) - 1))))).ack), Value.int IntKind.i64 ((dataS (more e text) ((IntKind.wrap .i64 (((e.outs.length + 1 : Nat) : Int) - 1))) (textAt (more e text).outs ((IntKind.wrap .i64 (((e.outs.length + 1 : Nat) : Int) - 1))))).held)] true) : Option IObj) = some o ∧ (some (.cells [Value.int IntKind.i64 ((dataS (more e text) ((IntKind.wrap .i64 (((e.outs.length + 1 : Nat) : Int) - 1))) (textAt (more e text).outs ((IntKind.wrap .i64 (((e.outs.length + 1 : Nat) : Int) - 1))))).kind), Value.int IntKind.i64 ((dataS (more e text) ((IntKind.wrap .i64 (((e.outs.length + 1 : Nat) : Int) - 1))) (textAt (more e text).outs ((IntKind.wrap .i64 (((e.outs.length + 1 : Nat) : Int) - 1))))).src), Value.int IntKind.i64 ((dataS (more e text) ((IntKind.wrap .i64 (((e.outs.length + 1 : Nat) : Int) - 1))) (textAt (more e text).outs ((IntKind.wrap .i64 (((e.outs.length + 1 : Nat) : Int) - 1))))).dst), Value.int IntKind.i64 ((dataS (more e text) ((IntKind.wrap .i64 (((e.outs.length + 1 : Nat) : Int) - 1))) (textAt (more e text).outs ((IntKind.wrap .i64 (((e.outs.length + 1 : Nat) : Int) - 1))))).num), Value.string (dataS (more e text) ((IntKind.wrap .i64 (((e.outs.length + 1 : Nat) : Int) - 1))) (textAt (more e text).outs ((IntKind.wrap .i64 (((e.outs.length + 1 : Nat) : Int) - 1))))).text, Value.int IntKind.i64 ((dataS (more e text) ((IntKind.wrap .i64 (((e.outs.length + 1 : Nat) : Int) - 1))) (textAt (more e text).outs ((IntKind.wrap .i64 (((e.outs.length + 1 : Nat) : Int) - 1))))).ack), Value.int IntKind.i64 ((dataS (more e text) ((IntKind.wrap .i64 (((e.outs.length + 1 : Nat) : Int) - 1))) (textAt (more e text).outs ((IntKind.wrap .i64 (((e.outs.length + 1 : Nat) : Int) - 1))))).held)] true) : Option IObj) = some o) ∧ (R (IEnd.ret (Value.tuple ⟨[Value.agg ⟨[Value.int IntKind.i64 e.life, Value.int IntKind.i64 e.peer, Value.int IntKind.i64 e.phase, Value.int IntKind.i64 e.base, Value.slice (some ⟨3, 0, some 4⟩) (e.outs.length + 1) (e.outs.length + 1), Value.int IntKind.i64 e.want, Value.slice (some ⟨((List.length B + 1) + 64), 0, some 4⟩) e.ins.length e.ins.length]⟩, Value.slice (some ⟨4, 0, some 15⟩) 1 1, Value.int IntKind.i64 0]⟩)) (Ide.pad 64 [.cells [Value.int IntKind.i64 e.life, Value.int IntKind.i64 e.peer, Value.int IntKind.i64 e.phase, Value.int IntKind.i64 e.base, Value.slice (some ⟨3, 0, some 4⟩) (e.outs.length + 1) (e.outs.length + 1), Value.int IntKind.i64 e.want, Value.slice (some ⟨((List.length B + 1) + 64), 0, some 4⟩) e.ins.length e.ins.length] true, .cells [Value.int IntKind.i64 e.life, Value.int IntKind.i64 e.peer, Value.int IntKind.i64 e.phase, Value.int IntKind.i64 e.base, Value.slice (some ⟨3, 0, some 4⟩) (e.outs.length + 1) (e.outs.length + 1), Value.int IntKind.i64 e.want, Value.slice (some ⟨((List.length B + 1) + 64), 0, some 4⟩) e.ins.length e.ins.length] true, .cells [Value.string text, Value.bool false] true, .cells ((cs1 : List Value) ++ [Value.string text, Value.bool false]) true, .cells [Value.int IntKind.i64 ((dataS (more e text) ((IntKind.wrap .i64 (((e.outs.length + 1 : Nat) : Int) - 1))) (textAt (more e text).outs ((IntKind.wrap .i64 (((e.outs.length + 1 : Nat) : Int) - 1))))).kind), Value.int IntKind.i64 ((dataS (more e text) ((IntKind.wrap .i64 (((e.outs.length + 1 : Nat) : Int) - 1))) (textAt (more e text).outs ((IntKind.wrap .i64 (((e.outs.length + 1 : Nat) : Int) - 1))))).src), Value.int IntKind.i64 ((dataS (more e text) ((IntKind.wrap .i64 (((e.outs.length + 1 : Nat) : Int) - 1))) (textAt (more e text).outs ((IntKind.wrap .i64 (((e.outs.length + 1 : Nat) : Int) - 1))))).dst), Value.int IntKind.i64 ((dataS (more e text) ((IntKind.wrap .i64 (((e.outs.length + 1 : Nat) : Int) - 1))) (textAt (more e text).outs ((IntKind.wrap .i64 (((e.outs.length + 1 : Nat) : Int) - 1))))).num), Value.string (dataS (more e text) ((IntKind.wrap .i64 (((e.outs.length + 1 : Nat) : Int) - 1))) (textAt (more e text).outs ((IntKind.wrap .i64 (((e.outs.length + 1 : Nat) : Int) - 1))))).text, Value.int IntKind.i64 ((dataS (more e text) ((IntKind.wrap .i64 (((e.outs.length + 1 : Nat) : Int) - 1))) (textAt (more e text).outs ((IntKind.wrap .i64 (((e.outs.length + 1 : Nat) : Int) - 1))))).ack), Value.int IntKind.i64 ((dataS (more e text) ((IntKind.wrap .i64 (((e.outs.length + 1 : Nat) : Int) - 1))) (textAt (more e text).outs ((IntKind.wrap .i64 (((e.outs.length + 1 : Nat) : Int) - 1))))).held)] true] (List.set (B ++ [.cells (outC e.outs) true, .cells (inC e.ins) true]) (List.length B) (.dead)))))))
 (R (IEnd.ret (Value.tuple ⟨[Value.agg ⟨[Value.int IntKind.i64 e.life, Value.int IntKind.i64 e.peer, Value.int IntKind.i64 e.phase, Value.int IntKind.i64 e.base, Value.slice (some ⟨3, 0, some 4⟩) (e.outs.length + 1) (e.outs.length + 1), Value.int IntKind.i64 e.want, Value.slice (some ⟨((List.length B + 1) + 64), 0, some 4⟩) e.ins.length e.ins.length]⟩, Value.slice none 0 0, Value.int IntKind.i64 0]⟩)) (Ide.pad 64 [.cells [Value.int IntKind.i64 e.life, Value.int IntKind.i64 e.peer, Value.int IntKind.i64 e.phase, Value.int IntKind.i64 e.base, Value.slice (some ⟨3, 0, some 4⟩) (e.outs.length + 1) (e.outs.length + 1), Value.int IntKind.i64 e.want, Value.slice (some ⟨((List.length B + 1) + 64), 0, some 4⟩) e.ins.length e.ins.length] true, .cells [Value.int IntKind.i64 e.life, Value.int IntKind.i64 e.peer, Value.int IntKind.i64 e.phase, Value.int IntKind.i64 e.base, Value.slice (some ⟨3, 0, some 4⟩) (e.outs.length + 1) (e.outs.length + 1), Value.int IntKind.i64 e.want, Value.slice (some ⟨((List.length B + 1) + 64), 0, some 4⟩) e.ins.length e.ins.length] true, .cells [Value.string text, Value.bool false] true, .cells ((cs1 : List Value) ++ [Value.string text, Value.bool false]) true] (List.set (B ++ [.cells (outC e.outs) true, .cells (inC e.ins) true]) (List.length B) (.dead))))))))))))))))))) (by kernel_rfl) ?_
  rw [hw, textAt_more]
  refine ⟨rfl, gH _, bcI (fun hg => err _ 2 ?_ (by decide)) fun hg => bcI (fun h1 => err _ 3 ?_ (by decide)) fun h1 => bcI (fun h2 => err _ 3 ?_ (by decide)) fun h2 => bcI (fun h3 => err _ 3 ?_ (by decide)) fun h3 => ?_⟩
  · unfold sendE; simp at hg; simp [hg]
  · unfold sendE; simp at hg h1; simp [hg, h1]
  · unfold sendE; simp at hg h2; simp [hg, h2]
  · unfold sendE; simp at hg h3; simp [hg, h3]
  have he : sendE e (goodS e) text = 0 := by unfold sendE; simp at hg h1 h2 h3; simp [hg, h1, h2, h3]
  have hv : ∀ a b : Nat, Value.agg ⟨[Value.int IntKind.i64 e.life, Value.int IntKind.i64 e.peer, Value.int IntKind.i64 e.phase, Value.int IntKind.i64 e.base, Value.slice (some ⟨a, 0, some 4⟩) (e.outs.length + 1) (e.outs.length + 1), Value.int IntKind.i64 e.want, Value.slice (some ⟨b, 0, some 4⟩) e.ins.length e.ins.length]⟩ = endP (more e text) a b := fun a b => by simp [endP, more]
  have hc : outC e.outs ++ [Value.string text, Value.bool false] = outC (more e text).outs := by rw [more, outC_append]; rfl
  have hP : ∀ l, l.getD 3 .free = .cells (outC (more e text).outs) true → HasP (more e text) 3 (B.length + 1 + 64) true true (pad 64 l (List.set (B ++ [.cells (outC e.outs) true, .cells (inC e.ins) true]) B.length .dead)) := fun l hl =>
    ⟨by rw [pad_low 64 _ _ 3 (by omega), hl], by rw [pad_high, set_len]; exact get_len1 _ _ _ _, by omega⟩
  refine ⟨rfl, gH _, ⟨by omega, by omega⟩, outC e.outs, cellsAt_outC (get_len _ _ _), Nat.le_refl _, ⟨rfl, rfl⟩, by omega, ⟨_, get_len _ _ _⟩, by rw [hv], hP _ (by rw [← hc]; rfl), trivial, rfl, bcI (fun hf => ⟨⟨hv _ _, rfl⟩, ⟨⟨by omega, by omega⟩, hP _ (by rw [← hc]; rfl)⟩, rfl, ⟨_, rfl, rfl⟩, ?_⟩) fun hf => ?_⟩
  · have hf : flyS (more e text) = ((e.outs.length + 1 : Nat) : Int) := by simpa using hf
    rw [hR, hB, set_len, hv]
    refine slot_ext _ (.tuple ⟨[endP (more e text) (H.length + 2) (H.length + 1), pksV (sendP e text) (H.length + 3), .int .i64 0]⟩) [3, 4] [.dead, .cells (inC e.ins) true] [.dead, .cells (inC e.ins) true] [.cells (outC (more e text).outs) true, .cells (pksC (sendP e text)) true] (by decide) rfl ⟨.inl rfl, LessO.plain (ground_inC _), trivial⟩
      (newsAt_plain (by rw [← hc]; rfl) (ground_outC _) (newsAt_plain (by unfold sendP pksC; rw [if_pos hf]; rfl) ?_ trivial)) ?_ ?_
    · unfold sendP
      rw [if_pos hf]
      rfl
    · unfold sendP
      rw [if_pos hf]
      refine Less.tuple ⟨Less.same ?_, ?_, Less.refl _, trivial⟩
      · rw [List.length_map]; exact mv_endP rfl (unS_sh _ _ _)
      · exact Less.odd _ _ 7 1
    · unfold SendR
      rw [if_pos he]
      exact ⟨_, _, _, _, rfl, rfl, by simp, by simp, by simp, by omega, by omega, by omega⟩
  · have hf : ¬ flyS (more e text) = ((e.outs.length + 1 : Nat) : Int) := by simpa using hf
    rw [hR, hB, set_len, hv]
    refine slot_ext _ (.tuple ⟨[endP (more e text) (H.length + 2) (H.length + 1), pksV (sendP e text) (H.length + 3), .int .i64 0]⟩) [3, 4] [.dead, .cells (inC e.ins) true] [.dead, .cells (inC e.ins) true] [.cells (outC (more e text).outs) true, .cells (pksC (sendP e text)) true] (by decide) rfl ⟨.inl rfl, LessO.plain (ground_inC _), trivial⟩
      (newsAt_plain (by rw [← hc]; rfl) (ground_outC _) (newsAt_free rfl trivial)) ?_ ?_
    · unfold sendP
      rw [if_neg hf]
      refine Less.tuple ⟨Less.same ?_, ?_, Less.refl _, trivial⟩
      · rw [List.length_map]; exact mv_endP rfl (unS_sh _ _ _)
      · exact Less.nil _ _ _
    · unfold SendR
      rw [if_pos he]
      exact ⟨_, _, _, _, rfl, rfl, by simp, by simp, by simp, by omega, by omega, by omega⟩

end Go.Proofs.Ytoikiogaiikheaa.Sess

/- Slots are given new numbers. -/
set_option linter.unusedVariables false
set_option linter.unusedSimpArgs false
namespace Ide
open Go Go.RowKit

def lkp : List (Nat × Nat) → Nat → Option Nat
  | [], _ => none
  | (a, b) :: r, i => bif Nat.beq a i then some b else lkp r i
def lkv : List (Nat × Nat) → Nat → Option Nat
  | [], _ => none
  | (a, b) :: r, j => bif Nat.beq b j then some a else lkv r j
theorem lkp_mem : ∀ {m : List (Nat × Nat)} {i j : Nat}, lkp m i = some j → (i, j) ∈ m
  | (a, b) :: r, i, j, h => by
    simp only [lkp] at h
    cases hb : Nat.beq a i with
    | true => rw [hb] at h; cases h; rw [Nat.eq_of_beq_eq_true hb]; simp
    | false => rw [hb] at h; exact List.mem_cons_of_mem _ (lkp_mem h)
theorem lkv_mem : ∀ {m : List (Nat × Nat)} {i j : Nat}, lkv m j = some i → (i, j) ∈ m
  | (a, b) :: r, i, j, h => by
    simp only [lkv] at h
    cases hb : Nat.beq b j with
    | true => rw [hb] at h; cases h; rw [Nat.eq_of_beq_eq_true hb]; simp
    | false => rw [hb] at h; exact List.mem_cons_of_mem _ (lkv_mem h)

def oeq : Option Nat → Nat → Bool
  | some a, b => Nat.beq a b
  | none, _ => false
theorem oeq_eq {a : Option Nat} {b : Nat} (h : oeq a b = true) : a = some b := by
  cases a with
  | none => cases h
  | some a => rw [Nat.eq_of_beq_eq_true h]

def nodupB : List Nat → Bool
  | [] => true
  | x :: l => !memN x l && nodupB l
theorem nodupB_nodup : ∀ {l : List Nat}, nodupB l = true → l.Nodup
  | [], _ => by simp
  | x :: l, h => by
    simp only [nodupB, Bool.and_eq_true, Bool.not_eq_true'] at h
    refine List.nodup_cons.2 ⟨fun hm => ?_, nodupB_nodup h.2⟩
    rw [memN_iff.2 hm] at h
    cases h.1

/-- mp: slots that stay, each with its new number; ks: slots that come last. -/
def mpOk (mp : List (Nat × Nat)) (ks : List Nat) : Bool :=
  mp.all (fun p => Nat.blt p.1 64 && Nat.blt p.2 64 && oeq (lkp mp p.1) p.2 && oeq (lkv mp p.2) p.1 && !memN p.1 ks) && ks.all (Nat.blt · 64) && nodupB ks

def sgM (mp : List (Nat × Nat)) (ks : List Nat) (N : Nat) (i : Nat) : Option Nat :=
  bif Nat.ble 64 i then some i else (match lkp mp i with | some j => some j | none => bif memN i ks then some (N + posN i ks) else none)

def MpLess (σ : Nat → Option Nat) (l l2 : List IObj) : List (Nat × Nat) → Prop
  | [] => True
  | p :: r => (l.getD p.1 .free = .free ∨ LessO (mvO σ (l.getD p.1 .free)) (l2.getD p.2 .free)) ∧ MpLess σ l l2 r
theorem MpLess.get {σ : Nat → Option Nat} {l l2 : List IObj} : ∀ {mp : List (Nat × Nat)}, MpLess σ l l2 mp → ∀ p ∈ mp, l.getD p.1 .free = .free ∨ LessO (mvO σ (l.getD p.1 .free)) (l2.getD p.2 .free)
  | p :: r, h, q, hq => by
    rcases List.mem_cons.1 hq with rfl | hq
    · exact h.1
    · exact h.2.get q hq

theorem sgM_sh (mp : List (Nat × Nat)) (ks : List Nat) (N i : Nat) : sgM mp ks N (i + 64) = some (i + 64) := by
  unfold sgM
  rw [Nat.ble_eq_true_of_le (show 64 ≤ i + 64 by omega)]
  rfl

theorem Move.map {m : Nat} {mp : List (Nat × Nat)} {ks : List Nat} {env env2 : Env} {l l2 : List IObj} {base base2 objs : IHeap} (hm : m ≤ 64 + base.length) (hok : mpOk mp ks = true)
    (hl : MpLess (sgM mp ks (64 + base.length)) l l2 mp)
    (hb : LessOs (base.map (mvO (sgM mp ks (64 + base.length)))) base2) (ho : NewsAt (sgM mp ks (64 + base.length)) l ks objs)
    (he : EnvLess (sgM mp ks (64 + base.length)) env env2) :
    Move m env (pad 64 l base) env2 (pad 64 l2 (base2 ++ objs)) (sgM mp ks (64 + base.length)) (fun j => if j < 64 then lkv mp j else if j < 64 + base.length then some j else ks[j - (64 + base.length)]?) := by
  have hbl : base2.length = base.length := by rw [hb.len]; simp
  have hol := ho.len
  have hlen : (pad 64 l base).length = 64 + base.length := pad_len _ _ _
  simp only [mpOk, Bool.and_eq_true] at hok
  obtain ⟨⟨hmp, hk64⟩, hknd⟩ := hok
  have hnd := nodupB_nodup hknd
  have pr : ∀ {i j : Nat}, (i, j) ∈ mp → i < 64 ∧ j < 64 ∧ lkp mp i = some j ∧ lkv mp j = some i ∧ memN i ks = false := fun {i j} hm => by
    have h := List.all_eq_true.1 hmp (i, j) hm
    simp only [Bool.and_eq_true, Nat.blt_eq, Bool.not_eq_true'] at h
    exact ⟨h.1.1.1.1, h.1.1.1.2, oeq_eq h.1.1.2, oeq_eq h.1.2, h.2⟩
  have hk : ∀ {p k : Nat}, ks[p]? = some k → k < 64 := fun {p k} hp => by
    have := List.all_eq_true.1 hk64 k (List.mem_of_getElem? hp)
    simpa [Nat.blt_eq] using this
  have s2 : ∀ {i}, 64 ≤ i → sgM mp ks (64 + base.length) i = some i := fun {i} h => by unfold sgM; rw [Nat.ble_eq_true_of_le h]; rfl
  have s1 : ∀ {i}, i < 64 → sgM mp ks (64 + base.length) i = (match lkp mp i with | some j => some j | none => bif memN i ks then some (64 + base.length + posN i ks) else none) := fun {i} h => by
    unfold sgM
    have e2 : Nat.ble 64 i = false := by cases h2 : Nat.ble 64 i with | false => rfl | true => have := Nat.le_of_ble_eq_true h2; omega
    rw [e2]; rfl
  refine ⟨fun i j => ?_, fun i h1 h2 => ⟨by rw [hlen]; omega, s2 h1⟩, fun i j o2 hj ho2 => ?_, fun i j hj => ?_, he.lk⟩
  · rw [hlen]
    constructor
    · rintro ⟨h1, h2⟩
      rcases Nat.lt_or_ge i 64 with h4 | h4
      · rw [s1 h4] at h2
        cases hp : lkp mp i with
        | some j' =>
          rw [hp] at h2
          cases h2
          obtain ⟨_, g2, _, g4, _⟩ := pr (lkp_mem hp)
          skip
          rw [if_pos g2]; exact g4
        | none =>
          rw [hp] at h2
          simp only at h2
          cases hmem : memN i ks with
          | false => rw [hmem] at h2; cases h2
          | true =>
            rw [hmem] at h2
            simp only [cond_true] at h2
            cases h2
            skip
            rw [if_neg (by omega), if_neg (by omega), Nat.add_sub_cancel_left]
            exact posN_get (memN_iff.1 hmem)
      · rw [s2 h4] at h2; cases h2
        skip
        rw [if_neg (by omega), if_pos h1]
    · intro h
      skip
      split at h
      · obtain ⟨g1, g2, g3, g4, g5⟩ := pr (lkv_mem h)
        refine ⟨by omega, ?_⟩
        rw [s1 g1, g3]
      · split at h
        · cases h; rename_i h4 h5; exact ⟨h5, s2 (by omega)⟩
        · rename_i h4 h5
          have h7 := hk h
          refine ⟨by omega, ?_⟩
          have hmem := memN_iff.2 (List.mem_of_getElem? h)
          rw [s1 h7]
          cases hp : lkp mp i with
          | some j' =>
            have := (pr (lkp_mem hp)).2.2.2.2
            rw [hmem] at this
            cases this
          | none =>
            rw [hmem]
            simp only [cond_true]
            have := nod_inj hnd (posN_get (memN_iff.1 hmem)) h
            rw [this]
            congr 1
            omega
  · skip
    split at hj
    · rename_i h3
      have hm := lkv_mem hj
      obtain ⟨g1, _⟩ := pr hm
      rw [pad_low 64 _ _ _ h3] at ho2
      cases ho2
      refine .inr ⟨_, pad_low 64 l base i g1, ?_⟩
      exact hl.get _ hm
    · split at hj
      · cases hj
        rename_i h4 h5
        rw [pad_get _ _ (by omega), List.getElem?_append_left (by omega)] at ho2
        obtain ⟨p, hp, hle⟩ := hb.get ho2
        rw [List.getElem?_map] at hp
        obtain ⟨o', h6, rfl⟩ := Option.map_eq_some_iff.1 hp
        exact .inr ⟨o', by rw [pad_get _ _ (by omega)]; exact h6, .inr hle⟩
      · rename_i h4 h5
        rw [pad_get _ _ (by omega), List.getElem?_append_right (by omega), hbl, show j - 64 - base.length = j - (64 + base.length) by omega] at ho2
        exact .inr ⟨_, pad_low 64 l base i (hk hj), ho.get hj ho2⟩
  · rw [pad_len, List.length_append, hbl, hol]
    skip
    split at hj
    · rename_i h3; omega
    · split at hj
      · omega
      · have := (List.getElem?_eq_some_iff.1 hj).1; omega

theorem LessO.same' {o o' : IObj} (h : o = o') : LessO o o' := .inl h.symm
theorem LessO.plainEq {σ : Nat → Option Nat} {o o' : IObj} (h : o = o') (hp : plainO o' = true) : LessO (mvO σ o) o' := by rw [h]; exact LessO.plain hp

/-- The caller's heap stays. -/
theorem Move.own {r : Root} {mp : List (Nat × Nat)} {env env2 : Env} {l l2 : List IObj} {H : IHeap} {B : IHeap} (hB : B = H.map (mvO shU)) (hm : r.m = 64 + H.length) (hok : mpOk mp [] = true)
    (hl : MpLess (sgM mp [] (64 + B.length)) l l2 mp) (he : EnvLess (sgM mp [] (64 + B.length)) env env2) :
    Move r.m env (pad 64 l B) env2 (pad 64 l2 B) (sgM mp [] (64 + B.length)) (fun j => if j < 64 then lkv mp j else if j < 64 + B.length then some j else ([] : List Nat)[j - (64 + B.length)]?) := by
  have h := Move.map (m := r.m) (base := B) (base2 := B) (objs := []) (by rw [hB, List.length_map]; omega) hok hl (by rw [hB, List.length_map, map_sh (sgM_sh _ _ _)]; exact LessOs.refl _) trivial he
  rwa [List.append_nil] at h

/-! ### what is known of objects -/
theorem cellAt_of {H : IHeap} {k o : Nat} {cs : List Value} {r : Bool} {v : Value} (h : H[k]? = some (.cells cs r)) (hv : cs[o]? = some v) : cellAt H k o = some v := by unfold cellAt; rw [h]; exact hv
theorem cellsAt_known {H : IHeap} {k o n : Nat} {cs vs : List Value} {r : Bool} (h : H[k]? = some (.cells cs r)) (hn : o + n ≤ cs.length) (hv : (cs.drop o).take n = vs) : cellsAt H k o n = some vs := by
  unfold cellsAt
  rw [h]
  simp only [if_pos hn, hv]
theorem set_self {H : IHeap} {k : Nat} {o o' : IObj} (h : H[k]? = some o) : (H.set k o')[k]? = some o' := by
  rw [List.getElem?_set, if_pos rfl, if_pos (List.getElem?_eq_some_iff.1 h).1]
theorem set_other {H : IHeap} {j k : Nat} {o o' : IObj} (h : H[j]? = some o) (hne : k ≠ j) : (H.set k o')[j]? = some o := by rw [List.getElem?_set_ne hne]; exact h
theorem set_id {H : IHeap} {k : Nat} {o : IObj} (h : H[k]? = some o) : H.set k o = H := by
  refine List.ext_getElem? fun j => ?_
  by_cases e : k = j
  · subst e; rw [set_self h, h]
  · rw [List.getElem?_set_ne e]
theorem LessOs.set : ∀ {a b : List IObj}, LessOs a b → ∀ (k : Nat) {o o' : IObj}, LessO o o' → LessOs (a.set k o) (b.set k o')
  | [], [], _, k, o, o', _ => trivial
  | _ :: _, _ :: _, h, 0, o, o', ho => ⟨ho, h.2⟩
  | _ :: _, _ :: _, h, k + 1, o, o', ho => ⟨h.1, h.2.set k ho⟩
  | [], _ :: _, h, _, _, _, _ => h.elim
  | _ :: _, [], h, _, _, _, _ => h.elim

/-- The caller's heap stays, but for one object. -/
theorem Move.own1 {r : Root} {mp : List (Nat × Nat)} {env env2 : Env} {l l2 : List IObj} {H : IHeap} {B : IHeap} {k : Nat} {o o2 : IObj} (hB : B = H.map (mvO shU)) (hm : r.m = 64 + H.length) (hok : mpOk mp [] = true)
    (hl : MpLess (sgM mp [] (64 + B.length)) l l2 mp) (ho : LessO (mvO (sgM mp [] (64 + B.length)) o) o2) (he : EnvLess (sgM mp [] (64 + B.length)) env env2) :
    Move r.m env (pad 64 l (B.set k o)) env2 (pad 64 l2 (B.set k o2)) (sgM mp [] (64 + B.length)) (fun j => if j < 64 then lkv mp j else if j < 64 + B.length then some j else ([] : List Nat)[j - (64 + B.length)]?) := by
  have e : (B.set k o).length = B.length := by simp
  have h := Move.map (m := r.m) (base := B.set k o) (base2 := B.set k o2) (objs := []) (mp := mp) (ks := []) (l := l) (l2 := l2) (env := env) (env2 := env2) (by rw [e, hB, List.length_map]; omega) hok (by rw [e]; exact hl)
    (by rw [e, List.map_set]; refine LessOs.set ?_ k ho; rw [hB, List.length_map, map_sh (sgM_sh _ _ _)]; exact LessOs.refl _) trivial (by rw [e]; exact he)
  rw [List.append_nil, e] at h
  exact h

/-- The end of a function that wrote one object of its caller's. -/
theorem slot_set {R : IEnd → IHeap → Prop} {H : IHeap} {l : List IObj} {k : Nat} {o o2 : IObj} (v u : Value) (ks : List Nat) (objs : List IObj) (hnd : ks.Nodup) (hks : ks.all (Nat.blt · 64) = true)
    (ho : LessO (mvO (unS ks H.length) o) o2) (hob : NewsAt (unS ks H.length) l ks objs) (hu : Less (mvV (unS ks H.length) v) u) (h : R (.ret u) (H.set k o2 ++ objs)) : slotR H.length R (.ret v) (pad 64 l ((H.map (mvO shU)).set k o)) := by
  have e : ((H.map (mvO shU)).set k o).length = H.length := by simp
  refine ⟨l, (H.map (mvO shU)).set k o, ks, H.set k o2, objs, rfl, by rw [e]; exact Nat.le_refl _, hnd, hks, ?_, ?_, ?_⟩
  · rw [e, List.map_set, back_sh]; exact LessOs.set (LessOs.refl _) k ho
  · rw [e]; exact hob
  · rw [e]; exact ⟨u, hu, h⟩

/-- An object that points to no slot. -/
def Up (o : IObj) : Prop := ∀ σ : Nat → Option Nat, (∀ i, σ (i + 64) = some (i + 64)) → mvO σ o = o
theorem Up.plain {o : IObj} (h : plainO o = true) : Up o := fun σ _ => mvO_plain σ h
theorem Up.dead : Up .dead := fun _ _ => rfl
theorem up_sh {H : IHeap} : ∀ o ∈ H.map (mvO shU), Up o := fun o ho => by
  obtain ⟨o', _, rfl⟩ := List.mem_map.1 ho
  exact fun σ h => mvO_sh h o'
theorem Move.up {r : Root} {mp : List (Nat × Nat)} {env env2 : Env} {l l2 : List IObj} {base : IHeap} (hu : ∀ o ∈ base, Up o) (hm : r.m ≤ 64 + base.length) (hok : mpOk mp [] = true)
    (hl : MpLess (sgM mp [] (64 + base.length)) l l2 mp) (he : EnvLess (sgM mp [] (64 + base.length)) env env2) :
    Move r.m env (pad 64 l base) env2 (pad 64 l2 base) (sgM mp [] (64 + base.length)) (fun j => if j < 64 then lkv mp j else if j < 64 + base.length then some j else ([] : List Nat)[j - (64 + base.length)]?) := by
  have h := Move.map (m := r.m) (base := base) (base2 := base) (objs := []) hm hok hl (by rw [ups_map fun o ho => hu o ho _ (sgM_sh _ _ _)]; exact LessOs.refl _) trivial he
  rwa [List.append_nil] at h

/-- New objects behind a heap of a length that is told. -/
def cQ (ags : List Value) (pre : IHeap → Prop) (q : Nat) (u : Nat → Value) (objs : List IObj) : Ctr := fun args H K => args = ags ∧ (pre H ∧ H.length = q) ∧ K (u q) (H ++ objs)
theorem cQ_ok {P : Program} {g : FuncId} {ags : List Value} {pre : IHeap → Prop} {q : Nat} {u : Nat → Value} {objs : List IObj} (h : ∀ H, pre H → ICalls P g ags H (fun r H' => r = .ret (u H.length) ∧ H' = H ++ objs)) :
    ∀ args H K, cQ ags pre q u objs args H K → ICalls P g args H (fun e H' => ∃ v, e = .ret v ∧ K v H') := by
  rintro args H K ⟨rfl, ⟨hp, rfl⟩, hk⟩
  exact (h H hp).mono fun e H' he => ⟨_, he.1, by rw [he.2]; exact hk⟩
theorem set_app (B l : IHeap) (c : Nat) (x : IObj) : (B ++ l).set (B.length + c) x = B ++ l.set c x := by
  simp [List.set_append]
theorem set_app0 (B l : IHeap) (x : IObj) : (B ++ l).set B.length x = B ++ l.set 0 x := by
  simp [List.set_append]
theorem get_app (B l : IHeap) (c : Nat) : (B ++ l)[B.length + c]? = l[c]? := by
  rw [List.getElem?_append_right (by omega), Nat.add_sub_cancel_left]
theorem get_app0 (B l : IHeap) : (B ++ l)[B.length]? = l[0]? := by
  rw [List.getElem?_append_right (by omega), Nat.sub_self]

end Ide
