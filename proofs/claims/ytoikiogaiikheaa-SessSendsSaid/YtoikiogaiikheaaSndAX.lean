/- Send and Tick of the program. -/
import Derived.Test.YtoikiogaiikheaaSndAW
set_option linter.unusedSectionVars false
set_option linter.unusedVariables false
set_option linter.unusedSimpArgs false
set_option maxRecDepth 10000
namespace Go.Proofs.Ytoikiogaiikheaa.Sess
open Go Go.RowKit Ide Go.Proofs

section
variable {e : SE} {i j : Nat} {r1 r2 : Bool} {H : IHeap}

theorem xW_xw {e : SE} (z : Nz e) (a b m : Nat) : xW e (adr e.oz a) (adr e.iz b) m = xw e a b m := by
  obtain ⟨life, peer, phase, base, want, oz, iz, outs, ins⟩ := e
  obtain ⟨⟨h1, h2⟩, _, _⟩ := z
  cases h1
  cases h2
  rfl
theorem open_p (z : Nz e) (h : HasP e i j r1 r2 H) : ICalls Pr 42 [endP e i j] H (fun r H' => ∃ es c, Look es (insF e.ins) ∧ r = .ret (.pointer (some ⟨H.length, 0, none⟩)) ∧ H' = H ++ [.cells (xw e (H.length + 1) j (H.length + 2)) true, .cells (outC e.outs) true, .map es c]) := by
  rw [← endP_at z.z]
  refine (open_at z.wf z.on h.out h.inn h.ne).mono fun r H' hr => ?_
  obtain ⟨es, c, h1, h2, h3⟩ := hr
  exact ⟨es, c, h1, h2, by rw [h3, xW_xw z]⟩

/-- The contract of open. -/
def cO (e : SE) (i j : Nat) (r1 r2 : Bool) : Ctr := fun args H K => args = [endP e i j] ∧ HasP e i j r1 r2 H ∧ ∀ es c, Look es (insF e.ins) → K (.pointer (some ⟨H.length, 0, none⟩)) (H ++ [.cells (xw e (H.length + 1) j (H.length + 2)) true, .cells (outC e.outs) true, .map es c])
theorem cO_ok (z : Nz e) : ∀ args H K, cO e i j r1 r2 args H K → ICalls Pr 42 args H (fun e H' => ∃ v, e = .ret v ∧ K v H') := by
  rintro args H K ⟨rfl, hp, hk⟩
  exact (open_p z hp).mono fun e H' he => by
    obtain ⟨es, c, h1, h2, h3⟩ := he
    exact ⟨_, h2, by rw [h3]; exact hk es c h1⟩
/-- The contract of shut. -/
def cS (e : SE) (f : Int → Option ByteArray) (k i j m q : Nat) : Ctr := fun args H K => args = [.pointer (some ⟨k, 0, none⟩)] ∧ (XAt e f k i [] j m true H ∧ H.length = q) ∧ K (endP (shutE e f) i q) (H.set k (.cells (xw (shutE e f) i q m) true) ++ [.cells (inC (shutE e f).ins) true])
theorem cS_ok {f : Int → Option ByteArray} {k m q : Nat} : ∀ args H K, cS e f k i j m q args H K → ICalls Pr 44 args H (fun e H' => ∃ v, e = .ret v ∧ K v H') := by
  rintro args H K ⟨rfl, ⟨hp, rfl⟩, hk⟩
  exact (shut_ok hp).mono fun e H' he => ⟨_, he.1, by rw [he.2]; exact hk⟩

/-- The end that Send returns, and its packets. -/
def ssE (e : SE) (text : ByteArray) : SE := shutE (more e text) (insF e.ins)
def ssP (e : SE) (text : ByteArray) : List Pkt := eachP (insF e.ins) (ssE e text) (fromN (ssE e text) (((flyS e).toNat : Nat) : Int))
def SSendR (e : SE) (ok : Bool) (text : ByteArray) (H : IHeap) (r : IEnd) (H' : IHeap) : Prop :=
  if sendE e ok text = 0 then ∃ objs i j k, H' = H ++ objs ∧ r = .ret (.tuple ⟨[endP (ssE e text) i j, pksV (ssP e text) k, .int .i64 0]⟩) ∧ H'[i]? = some (.cells (outC (ssE e text).outs) true) ∧ H'[j]? = some (.cells (inC (ssE e text).ins) true) ∧ H'[k]? = some (.cells (pksC (ssP e text)) true) ∧ (H.length ≤ i ∧ H.length ≤ j ∧ H.length ≤ k)
  else ∃ objs, H' = H ++ objs ∧ r = .ret (.tuple ⟨[zeroE, .slice none 0 0, .int .i64 (sendE e ok text)]⟩)

def scSS (e : SE) (i j : Nat) (r1 r2 : Bool) (text : ByteArray) (n : Nat) : SCall :=
  scC 36 (cR [endP e (i + 64) (j + 64)] (HasP e (i + 64) (j + 64) r1 r2) (.bool (fineS e)))
  (scC 42 (cO e (i + 64) (j + 64) r1 r2)
  (scC 43 (cR [.pointer (some ⟨n + 64, 0, none⟩)] (XAt e (insF e.ins) (n + 64) (n + 1 + 64) [] (j + 64) (n + 2 + 64) true) (sentV e (n + 1 + 64)))
  (scC 44 (cS (more e text) (insF e.ins) (n + 64) 3 (j + 64) (n + 2 + 64) (n + 3 + 64))
  (scC 45 (cQ [.pointer (some ⟨n + 64, 0, none⟩), .int .i64 (((flyS e).toNat : Nat) : Int)] (XAt (ssE e text) (insF e.ins) (n + 64) 3 [] (n + 3 + 64) (n + 2 + 64) true) (n + 4 + 64) (fun q => pksV (ssP e text) q) [.cells (pksC (ssP e text)) true]) sc0))))
theorem scSS_ok (z : Nz e) {text : ByteArray} {n : Nat} : SOk Pr (scSS e i j r1 r2 text n) :=
  scC_ok (cR_ok fun H h => fine_p z h) (scC_ok (cO_ok z) (scC_ok (cR_ok fun H h => xsent_ok h) (scC_ok cS_ok (scC_ok (cQ_ok fun H h => from_ok (by omega) h) sc0_ok))))

theorem ssend_ok (z : Nz e) (hl : e.outs.length ≤ 900) (h : HasP e i j r1 r2 H) (text : ByteArray) : ICalls Pr 16 [endP e i j, .string text] H (SSendR e (fineS e) text H) := by
  refine icalls_sy (hs := [(44, .val (fun _ => Value.slice (some ⟨(((H.map (mvO shU)).length + 1) + 64), 0, some 4⟩) e.outs.length e.outs.length))]) (sc := scSS e i j r1 r2 text (H.map (mvO shU)).length) 40 mixed (scSS_ok z) (by kernel_rfl) (by kernel_rfl) ?_
  obtain ⟨R, hR⟩ : ∃ R, R = slotR H.length (SSendR e (fineS e) text H) := ⟨_, rfl⟩
  obtain ⟨B, hB⟩ : ∃ B, B = H.map (mvO shU) := ⟨_, rfl⟩
  rw [← hR, ← hB]
  have hBl : B.length = H.length := by rw [hB]; simp
  have g1 : B[i]? = some (.cells (outC e.outs) r1) := by rw [hB]; exact base_plain h.out (ground_outC _)
  have g2 : B[j]? = some (.cells (inC e.ins) r2) := by rw [hB]; exact base_plain h.inn (ground_inC _)
  have gH : ∀ l, HasP e (i + 64) (j + 64) r1 r2 (pad 64 l B) := fun l => ⟨by rw [pad_high]; exact g1, by rw [pad_high]; exact g2, by have := h.ne; omega⟩
  have err : ∀ (l : List IObj) (c : Int), sendE e (fineS e) text = c → c ≠ 0 → R (.ret (.tuple ⟨[zeroE, .slice none 0 0, .int .i64 c]⟩)) (pad 64 l B) := by
    intro l c h1 h2
    rw [hR, hB]
    refine slot_same _ (.tuple ⟨[zeroE, .slice none 0 0, .int .i64 c]⟩) rfl ?_
    unfold SSendR
    rw [h1, if_neg h2]
    exact ⟨[], by simp, rfl⟩
  refine Eq.mp (α := (([Value.agg ⟨[Value.int IntKind.i64 e.life, Value.int IntKind.i64 e.peer, Value.int IntKind.i64 e.phase, Value.int IntKind.i64 e.base, Value.slice (some ⟨(i + 64), 0, some 4⟩) e.outs.length e.outs.length, Value.int IntKind.i64 e.want, Value.slice (some ⟨(j + 64), 0, some 4⟩) e.ins.length e.ins.length]⟩] : List Value) = ([endP e (i + 64) (j + 64)] : List Value) ∧ (HasP e (i + 64) (j + 64) r1 r2 (Ide.pad 64 [.cells [Value.int IntKind.i64 e.life, Value.int IntKind.i64 e.peer, Value.int IntKind.i64 e.phase, Value.int IntKind.i64 e.base, Value.slice (some ⟨(i + 64), 0, some 4⟩) e.outs.length e.outs.length, Value.int IntKind.i64 e.want, Value.slice (some ⟨(j + 64), 0, some 4⟩) e.ins.length e.ins.length] true, .cells [Value.int IntKind.i64 0, Value.int IntKind.i64 0, Value.int IntKind.i64 0, Value.int IntKind.i64 0, Value.slice none 0 0, Value.int IntKind.i64 0, Value.slice none 0 0] true] B)) ∧ (Ide.bcase (!(fineS e))
 (R (IEnd.ret (Value.tuple ⟨[Value.agg ⟨[Value.int IntKind.i64 0, Value.int IntKind.i64 0, Value.int IntKind.i64 0, Value.int IntKind.i64 0, Value.slice none 0 0, Value.int IntKind.i64 0, Value.slice none 0 0]⟩, Value.slice none 0 0, Value.int IntKind.i64 2]⟩)) (Ide.pad 64 [.cells [Value.int IntKind.i64 e.life, Value.int IntKind.i64 e.peer, Value.int IntKind.i64 e.phase, Value.int IntKind.i64 e.base, Value.slice (some ⟨(i + 64), 0, some 4⟩) e.outs.length e.outs.length, Value.int IntKind.i64 e.want, Value.slice (some ⟨(j + 64), 0, some 4⟩) e.ins.length e.ins.length] true, .cells [Value.int IntKind.i64 0, Value.int IntKind.i64 0, Value.int IntKind.i64 0, Value.int IntKind.i64 0, Value.slice none 0 0, Value.int IntKind.i64 0, Value.slice none 0 0] true] B))
 (Ide.bcase (decide (((ByteArray.size text : Nat) : Int) > 20))
 (R (IEnd.ret (Value.tuple ⟨[Value.agg ⟨[Value.int IntKind.i64 0, Value.int IntKind.i64 0, Value.int IntKind.i64 0, Value.int IntKind.i64 0, Value.slice none 0 0, Value.int IntKind.i64 0, Value.slice none 0 0]⟩, Value.slice none 0 0, Value.int IntKind.i64 3]⟩)) (Ide.pad 64 [.cells [Value.int IntKind.i64 e.life, Value.int IntKind.i64 e.peer, Value.int IntKind.i64 e.phase, Value.int IntKind.i64 e.base, Value.slice (some ⟨(i + 64), 0, some 4⟩) e.outs.length e.outs.length, Value.int IntKind.i64 e.want, Value.slice (some ⟨(j + 64), 0, some 4⟩) e.ins.length e.ins.length] true, .cells [Value.int IntKind.i64 0, Value.int IntKind.i64 0, Value.int IntKind.i64 0, Value.int IntKind.i64 0, Value.slice none 0 0, Value.int IntKind.i64 0, Value.slice none 0 0] true] B))
 (Ide.bcase (((e.outs.length : Nat) : Int) == 12)
 (R (IEnd.ret (Value.tuple ⟨[Value.agg ⟨[Value.int IntKind.i64 0, Value.int IntKind.i64 0, Value.int IntKind.i64 0, Value.int IntKind.i64 0, Value.slice none 0 0, Value.int IntKind.i64 0, Value.slice none 0 0]⟩, Value.slice none 0 0, Value.int IntKind.i64 3]⟩)) (Ide.pad 64 [.cells [Value.int IntKind.i64 e.life, Value.int IntKind.i64 e.peer, Value.int IntKind.i64 e.phase, Value.int IntKind.i64 e.base, Value.slice (some ⟨(i + 64), 0, some 4⟩) e.outs.length e.outs.length, Value.int IntKind.i64 e.want, Value.slice (some ⟨(j + 64), 0, some 4⟩) e.ins.length e.ins.length] true, .cells [Value.int IntKind.i64 0, Value.int IntKind.i64 0, Value.int IntKind.i64 0, Value.int IntKind.i64 0, Value.slice none 0 0, Value.int IntKind.i64 0, Value.slice none 0 0] true] B))
 (Ide.bcase ((IntKind.wrap .i64 (e.base + ((e.outs.length : Nat) : Int))) == 1000000000)
 (R (IEnd.ret (Value.tuple ⟨[Value.agg ⟨[Value.int IntKind.i64 0, Value.int IntKind.i64 0, Value.int IntKind.i64 0, Value.int IntKind.i64 0, Value.slice none 0 0, Value.int IntKind.i64 0, Value.slice none 0 0]⟩, Value.slice none 0 0, Value.int IntKind.i64 3]⟩)) (Ide.pad 64 [.cells [Value.int IntKind.i64 e.life, Value.int IntKind.i64 e.peer, Value.int IntKind.i64 e.phase, Value.int IntKind.i64 e.base, Value.slice (some ⟨(i + 64), 0, some 4⟩) e.outs.length e.outs.length, Value.int IntKind.i64 e.want, Value.slice (some ⟨(j + 64), 0, some 4⟩) e.ins.length e.ins.length] true, .cells [Value.int IntKind.i64 0, Value.int IntKind.i64 0, Value.int IntKind.i64 0, Value.int IntKind.i64 0, Value.slice none 0 0, Value.int IntKind.i64 0, Value.slice none 0 0] true] B))
 (([Value.agg ⟨[Value.int IntKind.i64 e.life, Value.int IntKind.i64 e.peer, Value.int IntKind.i64 e.phase, Value.int IntKind.i64 e.base, Value.slice (some ⟨(i + 64), 0, some 4⟩) e.outs.length e.outs.length, Value.int IntKind.i64 e.want, Value.slice (some ⟨(j + 64), 0, some 4⟩) e.ins.length e.ins.length]⟩] : List Value) = [endP e (i + 64) (j + 64)] ∧ HasP e (i + 64) (j + 64) r1 r2 (Ide.pad 64 [.cells [Value.int IntKind.i64 e.life, Value.int IntKind.i64 e.peer, Value.int IntKind.i64 e.phase, Value.int IntKind.i64 e.base, Value.slice (some ⟨(i + 64), 0, some 4⟩) e.outs.length e.outs.length, Value.int IntKind.i64 e.want, Value.slice (some ⟨(j + 64), 0, some 4⟩) e.ins.length e.ins.length] true, .cells [Value.int IntKind.i64 0, Value.int IntKind.i64 0, Value.int IntKind.i64 0, Value.int IntKind.i64 0, Value.slice none 0 0, Value.int IntKind.i64 0, Value.slice none 0 0] true] B) ∧ ∀ (es1 : List MapEntry) (c2 : Nat), Look es1 (insF e.ins) → (([Value.pointer (some ⟨((List.length B) + 64), 0, none⟩)] : List Value) = ([Value.pointer (some ⟨((List.length B) + 64), 0, none⟩)] : List Value) ∧ (XAt e (insF e.ins) (List.length B + 64) (List.length B + 1 + 64) [] (j + 64) (List.length B + 2 + 64) true (Ide.pad 64 [.cells [Value.int IntKind.i64 e.life, Value.int IntKind.i64 e.peer, Value.int IntKind.i64 e.phase, Value.int IntKind.i64 e.base, Value.slice (some ⟨(i + 64), 0, some 4⟩) e.outs.length e.outs.length, Value.int IntKind.i64 e.want, Value.slice (some ⟨(j + 64), 0, some 4⟩) e.ins.length e.ins.length] true, .cells [Value.int IntKind.i64 0, Value.int IntKind.i64 0, Value.int IntKind.i64 0, Value.int IntKind.i64 0, Value.slice none 0 0, Value.int IntKind.i64 0, Value.slice none 0 0] true] (B ++ [.cells (xw e (List.length B + 64 + 1) (j + 64) (List.length B + 64 + 2)) true, .cells (outC e.outs) true, .map es1 c2]))) ∧ (Ide.cellAt (B ++ [.cells (xw e (List.length B + 64 + 1) (j + 64) (List.length B + 64 + 2)) true, .cells (outC e.outs) true, .map es1 c2]) (List.length B) 4 = some (Value.slice (some ⟨((List.length B + 1) + 64), 0, some 4⟩) e.outs.length e.outs.length) ∧ (((e.outs.length + 1) * 24 ≤ 70368744177664 ∧ e.outs.length + 1 ≤ 70368744177664) ∧ (∃ cs3 : List Value, Ide.cellsAt (B ++ [.cells (xw e (List.length B + 64 + 1) (j + 64) (List.length B + 64 + 2)) true, .cells (outC e.outs) true, .map es1 c2]) (List.length B + 1) 0 (e.outs.length * 2) = some cs3 ∧ (0 + 1 * 2 ≤ List.length ([Value.string text, Value.bool false] : List Value) ∧ ((2 = 2 ∧ true = true) ∧ e.outs.length < (e.outs.length + 1) ∧ (∃ cs : List Value, (B ++ [.cells (xw e (List.length B + 64 + 1) (j + 64) (List.length B + 64 + 2)) true, .cells (outC e.outs) true, .map es1 c2] : IHeap)[List.length B + 1]? = some (.cells cs true)) ∧ (∃ cs4 : List Value, (List.set (B ++ [.cells (xw e (List.length B + 64 + 1) (j + 64) (List.length B + 64 + 2)) true, .cells (outC e.outs) true, .map es1 c2]) (List.length B + 1) (.dead) : IHeap)[List.length B]? = some (.cells cs4 true) ∧ 4 + 1 ≤ List.length cs4 ∧ (([Value.pointer (some ⟨((List.length B) + 64), 0, none⟩)] : List Value) = [Value.pointer (some ⟨((List.length B) + 64), 0, none⟩)] ∧ (XAt (more e text) (insF e.ins) (List.length B + 64) 3 [] (j + 64) (List.length B + 2 + 64) true (Ide.pad 64 [.cells [Value.int IntKind.i64 e.life, Value.int IntKind.i64 e.peer, Value.int IntKind.i64 e.phase, Value.int IntKind.i64 e.base, Value.slice (some ⟨(i + 64), 0, some 4⟩) e.outs.length e.outs.length, Value.int IntKind.i64 e.want, Value.slice (some ⟨(j + 64), 0, some 4⟩) e.ins.length e.ins.length] true, .cells [Value.int IntKind.i64 0, Value.int IntKind.i64 0, Value.int IntKind.i64 0, Value.int IntKind.i64 0, Value.slice none 0 0, Value.int IntKind.i64 0, Value.slice none 0 0] true, .cells [Value.string text, Value.bool false] true, .cells ((cs3 : List Value) ++ [Value.string text, Value.bool false]) true] (List.set (List.set (B ++ [.cells (xw e (List.length B + 64 + 1) (j + 64) (List.length B + 64 + 2)) true, .cells (outC e.outs) true, .map es1 c2]) (List.length B + 1) (.dead)) (List.length B) (.cells (Ide.splice cs4 4 [Value.slice (some ⟨3, 0, some 4⟩) (e.outs.length + 1) (e.outs.length + 1)]) true))) ∧ List.length (Ide.pad 64 [.cells [Value.int IntKind.i64 e.life, Value.int IntKind.i64 e.peer, Value.int IntKind.i64 e.phase, Value.int IntKind.i64 e.base, Value.slice (some ⟨(i + 64), 0, some 4⟩) e.outs.length e.outs.length, Value.int IntKind.i64 e.want, Value.slice (some ⟨(j + 64), 0, some 4⟩) e.ins.length e.ins.length] true, .cells [Value.int IntKind.i64 0, Value.int IntKind.i64 0, Value.int IntKind.i64 0, Value.int IntKind.i64 0, Value.slice none 0 0, Value.int IntKind.i64 0, Value.slice none 0 0] true, .cells [Value.string text, Value.bool false] true, .cells ((cs3 : List Value) ++ [Value.string text, Value.bool false]) true] (List.set (List.set (B ++ [.cells (xw e (List.length B + 64 + 1) (j + 64) (List.length B + 64 + 2)) true, .cells (outC e.outs) true, .map es1 c2]) (List.length B + 1) (.dead)) (List.length B) (.cells (Ide.splice cs4 4 [Value.slice (some ⟨3, 0, some 4⟩) (e.outs.length + 1) (e.outs.length + 1)]) true))) = List.length B + 3 + 64) ∧ (([Value.pointer (some ⟨((List.length B) + 64), 0, none⟩), Value.int IntKind.i64 (((flyS e).toNat : Nat) : Int)] : List Value) = ([Value.pointer (some ⟨((List.length B) + 64), 0, none⟩), Value.int IntKind.i64 (((flyS e).toNat : Nat) : Int)] : List Value) ∧ ((XAt (ssE e text) (insF e.ins) (List.length B + 64) 3 [] (List.length B + 3 + 64) (List.length B + 2 + 64) true (Ide.pad 64 [.cells [Value.int IntKind.i64 e.life, Value.int IntKind.i64 e.peer, Value.int IntKind.i64 e.phase, Value.int IntKind.i64 e.base, Value.slice (some ⟨(i + 64), 0, some 4⟩) e.outs.length e.outs.length, Value.int IntKind.i64 e.want, Value.slice (some ⟨(j + 64), 0, some 4⟩) e.ins.length e.ins.length] true, .cells [Value.int IntKind.i64 0, Value.int IntKind.i64 0, Value.int IntKind.i64 0, Value.int IntKind.i64 0, Value.slice none 0 0, Value.int IntKind.i64 0, Value.slice none 0 0] true, .cells [Value.string text, Value.bool false] true, .cells ((cs3 : List Value) ++ [Value.string text, Value.bool false]) true] ((List.set (List.set (List.set (B ++ [.cells (xw e (List.length B + 64 + 1) (j + 64) (List.length B + 64 + 2)) true, .cells (outC e.outs) true, .map es1 c2]) (List.length B + 1) (.dead)) (List.length B) (.cells (Ide.splice cs4 4 [Value.slice (some ⟨3, 0, some 4⟩) (e.outs.length + 1) (e.outs.length + 1)]) true)) (List.length B) (.cells (xw (shutE (more e text) (insF e.ins)) 3 (List.length B + 3 + 64) (List.length B + 2 + 64)) true)) ++ [.cells (inC (shutE (more e text) (insF e.ins)).ins) true]))) ∧ List.length (Ide.pad 64 [.cells [Value.int IntKind.i64 e.life, Value.int IntKind.i64 e.peer, Value.int IntKind.i64 e.phase, Value.int IntKind.i64 e.base, Value.slice (some ⟨(i + 64), 0, some 4⟩) e.outs.length e.outs.length, Value.int IntKind.i64 e.want, Value.slice (some ⟨(j + 64), 0, some 4⟩) e.ins.length e.ins.length] true, .cells [Value.int IntKind.i64 0, Value.int IntKind.i64 0, Value.int IntKind.i64 0, Value.int IntKind.i64 0, Value.slice none 0 0, Value.int IntKind.i64 0, Value.slice none 0 0] true, .cells [Value.string text, Value.bool false] true, .cells ((cs3 : List Value) ++ [Value.string text, Value.bool false]) true] ((List.set (List.set (List.set (B ++ [.cells (xw e (List.length B + 64 + 1) (j + 64) (List.length B + 64 + 2)) true, .cells (outC e.outs) true, .map es1 c2]) (List.length B + 1) (.dead)) (List.length B) (.cells (Ide.splice cs4 4 [Value.slice (some ⟨3, 0, some 4⟩) (e.outs.length + 1) (e.outs.length + 1)]) true)) (List.length B) (.cells (xw (shutE (more e text) (insF e.ins)) 3 (List.length B + 3 + 64) (List.length B + 2 + 64)) true)) ++ [.cells (inC (shutE (more e text) (insF e.ins)).ins) true])) = (List.length B + 4) + 64) ∧ (R (IEnd.ret (Value.tuple ⟨[Value.agg ⟨[Value.int IntKind.i64 e.life, Value.int IntKind.i64 e.peer, Value.int IntKind.i64 e.phase, Value.int IntKind.i64 e.base, Value.slice (some ⟨3, 0, some 4⟩) ((e.outs ++ [(text, false)]).length) ((e.outs ++ [(text, false)]).length), Value.int IntKind.i64 e.want, Value.slice (some ⟨((List.length B + 3) + 64), 0, some 4⟩) ((shutE (more e text) (insF e.ins)).ins.length) ((shutE (more e text) (insF e.ins)).ins.length)]⟩, pksV (ssP e text) (List.length B + 4 + 64), Value.int IntKind.i64 0]⟩)) (Ide.pad 64 [.cells [Value.int IntKind.i64 e.life, Value.int IntKind.i64 e.peer, Value.int IntKind.i64 e.phase, Value.int IntKind.i64 e.base, Value.slice (some ⟨(i + 64), 0, some 4⟩) e.outs.length e.outs.length, Value.int IntKind.i64 e.want, Value.slice (some ⟨(j + 64), 0, some 4⟩) e.ins.length e.ins.length] true, .cells [Value.int IntKind.i64 e.life, Value.int IntKind.i64 e.peer, Value.int IntKind.i64 e.phase, Value.int IntKind.i64 e.base, Value.slice (some ⟨3, 0, some 4⟩) ((e.outs ++ [(text, false)]).length) ((e.outs ++ [(text, false)]).length), Value.int IntKind.i64 e.want, Value.slice (some ⟨((List.length B + 3) + 64), 0, some 4⟩) ((shutE (more e text) (insF e.ins)).ins.length) ((shutE (more e text) (insF e.ins)).ins.length)] true, .cells [Value.string text, Value.bool false] true, .cells ((cs3 : List Value) ++ [Value.string text, Value.bool false]) true] (((List.set (List.set (List.set (B ++ [.cells (xw e (List.length B + 64 + 1) (j + 64) (List.length B + 64 + 2)) true, .cells (outC e.outs) true, .map es1 c2]) (List.length B + 1) (.dead)) (List.length B) (.cells (Ide.splice cs4 4 [Value.slice (some ⟨3, 0, some 4⟩) (e.outs.length + 1) (e.outs.length + 1)]) true)) (List.length B) (.cells (xw (shutE (more e text) (insF e.ins)) 3 (List.length B + 3 + 64) (List.length B + 2 + 64)) true)) ++ [.cells (inC (shutE (more e text) (insF e.ins)).ins) true]) ++ [.cells (pksC (ssP e text)) true]))))))))))))))))))) (by kernel_rfl) ?_
  refine ⟨rfl, gH _, bcI (fun hg => err _ 2 ?_ (by decide)) fun hg => bcI (fun h1 => err _ 3 ?_ (by decide)) fun h1 => bcI (fun h2 => err _ 3 ?_ (by decide)) fun h2 => bcI (fun h3 => err _ 3 ?_ (by decide)) fun h3 => ?_⟩
  · unfold sendE; simp at hg; simp [hg]
  · unfold sendE; simp at hg h1; simp [hg, h1]
  · unfold sendE; simp at hg h2; simp [hg, h2]
  · unfold sendE; simp at hg h3; simp [hg, h3]
  have he : sendE e (fineS e) text = 0 := by unfold sendE; simp at hg h1 h2 h3; simp [hg, h1, h2, h3]
  have hc : outC e.outs ++ [Value.string text, Value.bool false] = outC (more e text).outs := by rw [more, outC_append]; rfl
  refine ⟨rfl, gH _, fun es c L => ?_⟩
  have b1 : ∀ X O M Y : IObj, List.set (List.set (B ++ [X, O, M]) (B.length + 1) .dead) B.length Y = B ++ [Y, .dead, M] := fun X O M Y => by rw [set_app, set_app0]; rfl
  have b2 : ∀ Y D M Z : IObj, List.set (B ++ [Y, D, M]) B.length Z = B ++ [Z, D, M] := fun Y D M Z => by rw [set_app0]; rfl
  have hsp : Ide.splice (xw e (B.length + 64 + 1) (j + 64) (B.length + 64 + 2)) 4 [.slice (some ⟨3, 0, some 4⟩) (e.outs.length + 1) (e.outs.length + 1)] = xw (more e text) 3 (j + 64) (B.length + 2 + 64) := by
    simp [Ide.splice, xw, xwo, more]
  refine ⟨rfl, ⟨by rw [pad_high, get_app0]; rfl, by rw [pad_high, get_app]; rfl, es, c, by rw [pad_high, get_app]; rfl, L⟩, cellAt_of (get_app0 _ _) rfl, ⟨by omega, by omega⟩, outC e.outs, cellsAt_outC (get_app _ _ 1), Nat.le_refl _, ⟨rfl, rfl⟩, by omega, ⟨_, get_app _ _ 1⟩,
    _, by rw [set_app, get_app0]; rfl, by simp [xw, xwo], ?_⟩
  rw [hsp, hc]
  rw [b1, b2]
  refine ⟨rfl, ⟨⟨by rw [pad_high, get_app0]; rfl, rfl, es, c, by rw [pad_high, get_app]; rfl, L⟩, by rw [pad_len]; simp; omega⟩, rfl, ⟨⟨by rw [pad_high, List.append_assoc, get_app0]; rfl, rfl, es, c, by rw [pad_high, List.append_assoc, get_app]; rfl, L⟩, by rw [pad_len]; simp; omega⟩, ?_⟩
  rw [List.append_assoc, List.append_assoc]
  have hBl' : (H.map (mvO shU)).length = H.length := by simp
  rw [hR, hB, hBl']
  refine slot_ext _ (.tuple ⟨[endP (ssE e text) (H.length + 5) (H.length + 3), pksV (ssP e text) (H.length + 4), .int .i64 0]⟩) [3]
    [.cells (xw (ssE e text) 3 (H.length + 3 + 64) (H.length + 2 + 64)) true, .dead, .map es c, .cells (inC (ssE e text).ins) true, .cells (pksC (ssP e text)) true]
    [.cells (xw (ssE e text) (H.length + 5) (H.length + 3) (H.length + 2)) true, .dead, .map es c, .cells (inC (ssE e text).ins) true, .cells (pksC (ssP e text)) true]
    [.cells (outC (more e text).outs) true] (by decide) rfl ⟨?_, .inl rfl, LessO.plain (look_plain L c), LessO.plain (ground_inC _), LessO.plain (ground_pksC _), trivial⟩ (newsAt_plain (by rfl) (ground_outC _) trivial) ?_ ?_
  · refine LessO.same' ?_
    show IObj.cells (mvV.goL (unS [3] (H.length + 5)) (xw (ssE e text) 3 (H.length + 3 + 64) (H.length + 2 + 64))) true = _
    rw [mv_xw (σ := unS [3] (H.length + 5)) (e := ssE e text) (i := 3) (i' := H.length + 5) (j := H.length + 3 + 64) (j' := H.length + 3) (m := H.length + 2 + 64) (m' := H.length + 2) rfl (unS_sh _ _ _) (unS_sh _ _ _)]
  · refine Less.same ?_
    rw [show (e.outs ++ [(text, false)]).length = (ssE e text).outs.length from rfl]
    simp only [mvV, mvV.go, mvV.goL, pksV, unS_sh]
    rfl
  · unfold SSendR
    rw [if_pos he]
    exact ⟨_, _, _, _, rfl, rfl, by simp; rfl, by simp, by simp, by omega, by omega, by omega⟩

end
end Go.Proofs.Ytoikiogaiikheaa.Sess

/- Tick of the program. -/
set_option linter.unusedVariables false
set_option linter.unusedSimpArgs false
set_option maxRecDepth 10000
namespace Go.Proofs.Ytoikiogaiikheaa.Sess
open Go Go.RowKit Ide Go.Proofs

/-- The sent messages that are not held. -/
def tickN (n : Int) : Nat → List (ByteArray × Bool) → List Int
  | i, x :: l => if ((i : Nat) : Int) < n then (if x.2 = true then tickN n (i + 1) l else ((i : Nat) : Int) :: tickN n (i + 1) l) else []
  | _, [] => []
theorem tickN_len (n : Int) : ∀ (l : List (ByteArray × Bool)) (i : Nat), (tickN n i l).length ≤ l.length
  | [], i => by simp [tickN]
  | x :: l, i => by
    simp only [tickN]
    have := tickN_len n l (i + 1)
    split
    · split
      · simp; omega
      · simp; omega
    · simp
theorem tickN_mem {n m : Int} : ∀ {l : List (ByteArray × Bool)} {i : Nat}, m ∈ tickN n i l → 0 ≤ m ∧ m < n
  | [], i, h => by simp [tickN] at h
  | x :: l, i, h => by
    simp only [tickN] at h
    split at h
    · split at h
      · exact tickN_mem h
      · rcases List.mem_cons.1 h with rfl | h
        · omega
        · exact tickN_mem h
    · cases h

noncomputable def A17 : List Code := (sp 17).take 8
noncomputable def C17 : List Code := (sp 17).drop 9
noncomputable def L17 : Code := loopOf (sp 17) 8
theorem sp17 : Ide.spine (bodyOf Pr 17) [] = A17 ++ .block 0 (.loop L17) :: C17 := by kernel_rfl

section
variable {e : SE} {i j : Nat} {r1 r2 : Bool} {H : IHeap}

theorem stick_l {rt : Root} {base : IHeap} {n : Nat} {rr : Bool} (hu : ∀ o ∈ base, Up o) (hm : rt.m ≤ 64 + base.length) (go : base[n + 1]? = some (.cells (outC e.outs) rr)) (hon : e.outs.length ≤ 1000) (Qb : IExit → Env → IHeap → Prop) :
    ∀ (post pre : List (ByteArray × Bool)) (acc : List Int), e.outs = pre ++ post → acc.length ≤ pre.length → pre.length ≤ (flyS e).toNat →
    (∀ k, Qb (.exit 0) [(4, ptrTo (n + 64) 0), (5, intsV (acc ++ tickN (flyS e) pre.length post) 0), (23, sentV e (n + 1 + 64)), (24, .int .i64 (((flyS e).toNat : Nat) : Int)), (25, .int .i64 k)] (pad 64 [.cells (intsC (acc ++ tickN (flyS e) pre.length post)) true] base)) →
    LWQ rt none Pr 46 L17 Qb [(4, ptrTo (n + 64) 0), (5, intsV acc 0), (23, sentV e (n + 1 + 64)), (24, .int .i64 (((flyS e).toNat : Nat) : Int)), (25, .int .i64 ((pre.length : Nat) : Int))] (pad 64 [.cells (intsC acc) true] base) := by
  have hf := fly_nn e
  intro post
  induction post with
  | nil =>
    intro pre acc hp ha hfp hx
    refine lwq_round (hs := []) (rf := true) mixed sc0_ok 40 [4, 5, 23, 24, 25] (by kernel_rfl) ?_
    refine Eq.mp (α := (Ide.bcase (decide (((pre.length : Nat) : Int) < (((flyS e).toNat : Nat) : Int)))
 (0 ≤ ((pre.length : Nat) : Int) ∧ ((pre.length : Nat) : Int) < ((((flyS e).toNat) : Nat) : Int) ∧ (∃ s1 : ByteArray, Ide.cellAt base (n + 1) (0 + Int.toNat ((pre.length : Nat) : Int) * 2) = some (Value.string s1) ∧ (∃ b2 : Bool, Ide.cellAt base (n + 1) ((0 + Int.toNat ((pre.length : Nat) : Int) * 2) + 1) = some (Value.bool b2) ∧ (Ide.bcase (!b2)
 (((acc.length + 1) * 8 ≤ 70368744177664 ∧ acc.length + 1 ≤ 70368744177664) ∧ (0 + acc.length * 1 ≤ List.length ((intsC acc) : List Value) ∧ (0 + 1 * 1 ≤ List.length ([Value.int IntKind.i64 ((pre.length : Nat) : Int)] : List Value) ∧ ((1 = 1 ∧ true = true) ∧ acc.length < (acc.length + 1) ∧ (LWQ rt none Pr 46 L17 Qb [(4, Value.pointer (some ⟨(n + 64), 0, none⟩)), (5, Value.slice (some ⟨3, 0, some 2⟩) (acc.length + 1) (acc.length + 1)), (23, sentV e (n + 1 + 64)), (24, Value.int IntKind.i64 (((flyS e).toNat : Nat) : Int)), (25, Value.int IntKind.i64 (IntKind.wrap .i64 (((pre.length : Nat) : Int) + 1)))] (Ide.pad 64 [.dead, .cells [Value.string s1, Value.bool b2] true, .cells [Value.int IntKind.i64 ((pre.length : Nat) : Int)] true, .cells ((List.take (acc.length * 1) (List.drop 0 (intsC acc)) : List Value) ++ [Value.int IntKind.i64 ((pre.length : Nat) : Int)]) true] base))))))
 (LWQ rt none Pr 46 L17 Qb [(4, Value.pointer (some ⟨(n + 64), 0, none⟩)), (5, Value.slice (some ⟨0, 0, some 2⟩) acc.length acc.length), (23, sentV e (n + 1 + 64)), (24, Value.int IntKind.i64 (((flyS e).toNat : Nat) : Int)), (25, Value.int IntKind.i64 (IntKind.wrap .i64 (((pre.length : Nat) : Int) + 1)))] (Ide.pad 64 [.cells (intsC acc) true, .cells [Value.string s1, Value.bool b2] true] base))))))
 (Qb (.exit 0) [(4, Value.pointer (some ⟨(n + 64), 0, none⟩)), (5, Value.slice (some ⟨0, 0, some 2⟩) acc.length acc.length), (23, sentV e (n + 1 + 64)), (24, Value.int IntKind.i64 (((flyS e).toNat : Nat) : Int)), (25, Value.int IntKind.i64 ((pre.length : Nat) : Int))] (Ide.pad 64 [.cells (intsC acc) true] base)))) (by kernel_rfl) ?_
    have hl : e.outs.length = pre.length := by rw [hp]; simp
    refine bcI (fun h => by exfalso; simp at h; omega) fun h => ?_
    have := hx ((pre.length : Nat) : Int)
    simp only [tickN, List.append_nil] at this
    exact this
  | cons x post ih =>
    intro pre acc hp ha hfp hx
    refine lwq_round (hs := []) (rf := true) mixed sc0_ok 40 [4, 5, 23, 24, 25] (by kernel_rfl) ?_
    refine Eq.mp (α := (Ide.bcase (decide (((pre.length : Nat) : Int) < (((flyS e).toNat : Nat) : Int)))
 (0 ≤ ((pre.length : Nat) : Int) ∧ ((pre.length : Nat) : Int) < ((((flyS e).toNat) : Nat) : Int) ∧ (∃ s1 : ByteArray, Ide.cellAt base (n + 1) (0 + Int.toNat ((pre.length : Nat) : Int) * 2) = some (Value.string s1) ∧ (∃ b2 : Bool, Ide.cellAt base (n + 1) ((0 + Int.toNat ((pre.length : Nat) : Int) * 2) + 1) = some (Value.bool b2) ∧ (Ide.bcase (!b2)
 (((acc.length + 1) * 8 ≤ 70368744177664 ∧ acc.length + 1 ≤ 70368744177664) ∧ (0 + acc.length * 1 ≤ List.length ((intsC acc) : List Value) ∧ (0 + 1 * 1 ≤ List.length ([Value.int IntKind.i64 ((pre.length : Nat) : Int)] : List Value) ∧ ((1 = 1 ∧ true = true) ∧ acc.length < (acc.length + 1) ∧ (LWQ rt none Pr 46 L17 Qb [(4, Value.pointer (some ⟨(n + 64), 0, none⟩)), (5, Value.slice (some ⟨3, 0, some 2⟩) (acc.length + 1) (acc.length + 1)), (23, sentV e (n + 1 + 64)), (24, Value.int IntKind.i64 (((flyS e).toNat : Nat) : Int)), (25, Value.int IntKind.i64 (IntKind.wrap .i64 (((pre.length : Nat) : Int) + 1)))] (Ide.pad 64 [.dead, .cells [Value.string s1, Value.bool b2] true, .cells [Value.int IntKind.i64 ((pre.length : Nat) : Int)] true, .cells ((List.take (acc.length * 1) (List.drop 0 (intsC acc)) : List Value) ++ [Value.int IntKind.i64 ((pre.length : Nat) : Int)]) true] base))))))
 (LWQ rt none Pr 46 L17 Qb [(4, Value.pointer (some ⟨(n + 64), 0, none⟩)), (5, Value.slice (some ⟨0, 0, some 2⟩) acc.length acc.length), (23, sentV e (n + 1 + 64)), (24, Value.int IntKind.i64 (((flyS e).toNat : Nat) : Int)), (25, Value.int IntKind.i64 (IntKind.wrap .i64 (((pre.length : Nat) : Int) + 1)))] (Ide.pad 64 [.cells (intsC acc) true, .cells [Value.string s1, Value.bool b2] true] base))))))
 (Qb (.exit 0) [(4, Value.pointer (some ⟨(n + 64), 0, none⟩)), (5, Value.slice (some ⟨0, 0, some 2⟩) acc.length acc.length), (23, sentV e (n + 1 + 64)), (24, Value.int IntKind.i64 (((flyS e).toNat : Nat) : Int)), (25, Value.int IntKind.i64 ((pre.length : Nat) : Int))] (Ide.pad 64 [.cells (intsC acc) true] base)))) (by kernel_rfl) ?_
    have hl : e.outs.length = pre.length + post.length + 1 := by rw [hp]; simp; omega
    have hw : IntKind.wrap .i64 (((pre.length : Nat) : Int) + 1) = (((pre ++ [x]).length : Nat) : Int) := by rw [wrap_i64 (by omega) (by omega)]; simp
    have hs : cellAt base (n + 1) (0 + Int.toNat ((pre.length : Nat) : Int) * 2) = some (.string x.1) := by
      refine cellAt_of go ?_
      rw [hp, show 0 + Int.toNat ((pre.length : Nat) : Int) * 2 = 2 * pre.length by simp; omega]
      exact (outC_get pre x post).1
    have hb : cellAt base (n + 1) (0 + Int.toNat ((pre.length : Nat) : Int) * 2 + 1) = some (.bool x.2) := by
      refine cellAt_of go ?_
      rw [hp, show 0 + Int.toNat ((pre.length : Nat) : Int) * 2 + 1 = 2 * pre.length + 1 by simp; omega]
      exact (outC_get pre x post).2
    have hlast : (pre ++ [x]).length = pre.length + 1 := by simp
    have hp' : e.outs = (pre ++ [x]) ++ post := by rw [hp]; simp
    rw [hw, intsC_all]
    refine bcI (fun h => ⟨by omega, by simpa using h, x.1, hs, x.2, hb, bcI (fun hx2 => ?_) fun hx2 => ?_⟩) fun h => ?_
    · have h : ((pre.length : Nat) : Int) < flyS e := by simp at h; omega
      have hx2 : ¬ x.2 = true := by simpa using hx2
      have e1 : acc ++ tickN (flyS e) pre.length (x :: post) = (acc ++ [((pre.length : Nat) : Int)]) ++ tickN (flyS e) (pre ++ [x]).length post := by
        simp only [tickN, if_pos h, if_neg hx2, hlast, List.append_assoc, List.cons_append, List.nil_append]
      refine ⟨⟨by omega, by omega⟩, by rw [intsC_len]; omega, Nat.le_refl _, ⟨rfl, rfl⟩, by omega, ?_⟩
      refine LWQ.move (Move.up hu hm (mp := [(3, 0)]) (l2 := [.cells (intsC (acc ++ [((pre.length : Nat) : Int)])) true]) rfl ⟨.inr (LessO.plainEq (by unfold intsC; rw [List.map_append]; rfl) (ground_intsC _)), trivial⟩
        (env2 := [(4, ptrTo (n + 64) 0), (5, intsV (acc ++ [((pre.length : Nat) : Int)]) 0), (23, sentV e (n + 1 + 64)), (24, .int .i64 (((flyS e).toNat : Nat) : Int)), (25, .int .i64 (((pre ++ [x]).length : Nat) : Int))])
        ⟨⟨rfl, Less.same (by kernel_rfl)⟩, ⟨rfl, ?_⟩, ⟨rfl, Less.same (by kernel_rfl)⟩, ⟨rfl, Less.refl _⟩, ⟨rfl, Less.refl _⟩, trivial⟩) (ih _ _ hp' (by simp; omega) (by rw [hlast]; omega) (fun k => by rw [← e1]; exact hx k))
      unfold intsV
      rw [List.length_append]
      exact Less.same (by kernel_rfl)
    · have h : ((pre.length : Nat) : Int) < flyS e := by simp at h; omega
      have hx2 : x.2 = true := by simpa using hx2
      have e1 : acc ++ tickN (flyS e) pre.length (x :: post) = acc ++ tickN (flyS e) (pre ++ [x]).length post := by simp only [tickN, if_pos h, if_pos hx2, hlast]
      refine LWQ.move (Move.up hu hm (mp := [(0, 0)]) (l2 := [.cells (intsC acc) true]) rfl ⟨.inr (LessO.plainEq rfl (ground_intsC _)), trivial⟩
        (env2 := [(4, ptrTo (n + 64) 0), (5, intsV acc 0), (23, sentV e (n + 1 + 64)), (24, .int .i64 (((flyS e).toNat : Nat) : Int)), (25, .int .i64 (((pre ++ [x]).length : Nat) : Int))])
        ⟨⟨rfl, Less.same (by kernel_rfl)⟩, ⟨rfl, Less.same (by kernel_rfl)⟩, ⟨rfl, Less.same (by kernel_rfl)⟩, ⟨rfl, Less.refl _⟩, ⟨rfl, Less.refl _⟩, trivial⟩) (ih _ _ hp' (by simp; omega) (by rw [hlast]; omega) (fun k => by rw [← e1]; exact hx k))
    · have h : ¬ ((pre.length : Nat) : Int) < flyS e := by simp at h; omega
      have e1 : acc ++ tickN (flyS e) pre.length (x :: post) = acc := by simp only [tickN, if_neg h, List.append_nil]
      have := hx ((pre.length : Nat) : Int)
      rw [e1] at this
      exact this

def stickP (e : SE) : List Pkt := if e.phase = 3 then eachP (insF e.ins) e (tickN (flyS e) 0 e.outs) ++ [reportX (insF e.ins) e] else [greetS e]

def scST (e : SE) (i j : Nat) (r1 r2 : Bool) (n : Nat) : SCall :=
  scC 36 (cR [endP e (i + 64) (j + 64)] (HasP e (i + 64) (j + 64) r1 r2) (.bool (fineS e)))
  (scC 42 (cO e (i + 64) (j + 64) r1 r2)
  (scC 46 (cR [.pointer (some ⟨n + 64, 0, none⟩)] (XAt e (insF e.ins) (n + 64) (n + 1 + 64) [] (j + 64) (n + 2 + 64) true) (pktV (greetS e)))
  (scC 43 (cR [.pointer (some ⟨n + 64, 0, none⟩)] (XAt e (insF e.ins) (n + 64) (n + 1 + 64) [] (j + 64) (n + 2 + 64) true) (sentV e (n + 1 + 64))) sc0)))
theorem scST_ok (z : Nz e) {n : Nat} : SOk Pr (scST e i j r1 r2 n) :=
  scC_ok (cR_ok fun H h => fine_p z h) (scC_ok (cO_ok z) (scC_ok (cR_ok fun H h => xhello_ok h) (scC_ok (cR_ok fun H h => xsent_ok h) sc0_ok)))
def scSTc (e : SE) (j : Nat) (ns : List Int) (n : Nat) : SCall :=
  scC 47 (cQ [intsV ns 0, dataV (n + 64)] (fun H => XAt e (insF e.ins) (n + 64) (n + 1 + 64) [] (j + 64) (n + 2 + 64) true H ∧ H[0]? = some (.cells (intsC ns) true)) (n + 3 + 64) (fun q => pksV (eachP (insF e.ins) e ns) q) [.cells (pksC (eachP (insF e.ins) e ns)) true])
  (scC 49 (cR [.pointer (some ⟨n + 64, 0, none⟩)] (XAt e (insF e.ins) (n + 64) (n + 1 + 64) [] (j + 64) (n + 2 + 64) true) (pktV (reportX (insF e.ins) e))) sc0)
theorem scSTc_ok {ns : List Int} (hn : ∀ n ∈ ns, 0 ≤ n ∧ n < e.outs.length) (hlen : ns.length ≤ 1000) {n : Nat} : SOk Pr (scSTc e j ns n) :=
  scC_ok (cQ_ok fun H h => each_ok h.1 h.2 hn hlen) (scC_ok (cR_ok fun H h => xreport_ok h) sc0_ok)

theorem stick_ok (z : Nz e) (h : HasP e i j r1 r2 H) : ICalls Pr 17 [endP e i j] H (TickR (fineS e) (stickP e) H) := by
  refine icalls_spine (by kernel_rfl) fun rt hm => ?_
  obtain ⟨R, hR⟩ : ∃ R, R = slotR H.length (TickR (fineS e) (stickP e) H) := ⟨_, rfl⟩
  obtain ⟨B, hB⟩ : ∃ B, B = H.map (mvO shU) := ⟨_, rfl⟩
  rw [← hR, ← hB, sp17]
  have hBl : B.length = H.length := by rw [hB]; simp
  have g1 : B[i]? = some (.cells (outC e.outs) r1) := by rw [hB]; exact base_plain h.out (ground_outC _)
  have g2 : B[j]? = some (.cells (inC e.ins) r2) := by rw [hB]; exact base_plain h.inn (ground_inC _)
  have gH : ∀ l, HasP e (i + 64) (j + 64) r1 r2 (pad 64 l B) := fun l => ⟨by rw [pad_high]; exact g1, by rw [pad_high]; exact g2, by have := h.ne; omega⟩
  have hon := z.on
  have hf := fly_nn e
  refine iwrl_seg (hs := [(17, .val (fun _ => Value.int IntKind.i64 e.phase))]) (sc := scST e i j r1 r2 B.length) (rf := true) mixed (scST_ok z) 40 [2, 3, 4, 5, 23, 24, 25] A17 _ _ (by kernel_rfl) ?_
  refine Eq.mp (α := (([Value.agg ⟨[Value.int IntKind.i64 e.life, Value.int IntKind.i64 e.peer, Value.int IntKind.i64 e.phase, Value.int IntKind.i64 e.base, Value.slice (some ⟨(i + 64), 0, some 4⟩) e.outs.length e.outs.length, Value.int IntKind.i64 e.want, Value.slice (some ⟨(j + 64), 0, some 4⟩) e.ins.length e.ins.length]⟩] : List Value) = ([endP e (i + 64) (j + 64)] : List Value) ∧ (HasP e (i + 64) (j + 64) r1 r2 (Ide.pad 64 [.cells [Value.int IntKind.i64 e.life, Value.int IntKind.i64 e.peer, Value.int IntKind.i64 e.phase, Value.int IntKind.i64 e.base, Value.slice (some ⟨(i + 64), 0, some 4⟩) e.outs.length e.outs.length, Value.int IntKind.i64 e.want, Value.slice (some ⟨(j + 64), 0, some 4⟩) e.ins.length e.ins.length] true] B)) ∧ (Ide.bcase (!(fineS e))
 (R (IEnd.ret (Value.tuple ⟨[Value.slice none 0 0, Value.int IntKind.i64 2]⟩)) (Ide.pad 64 [.cells [Value.int IntKind.i64 e.life, Value.int IntKind.i64 e.peer, Value.int IntKind.i64 e.phase, Value.int IntKind.i64 e.base, Value.slice (some ⟨(i + 64), 0, some 4⟩) e.outs.length e.outs.length, Value.int IntKind.i64 e.want, Value.slice (some ⟨(j + 64), 0, some 4⟩) e.ins.length e.ins.length] true] B))
 (([Value.agg ⟨[Value.int IntKind.i64 e.life, Value.int IntKind.i64 e.peer, Value.int IntKind.i64 e.phase, Value.int IntKind.i64 e.base, Value.slice (some ⟨(i + 64), 0, some 4⟩) e.outs.length e.outs.length, Value.int IntKind.i64 e.want, Value.slice (some ⟨(j + 64), 0, some 4⟩) e.ins.length e.ins.length]⟩] : List Value) = [endP e (i + 64) (j + 64)] ∧ HasP e (i + 64) (j + 64) r1 r2 (Ide.pad 64 [.cells [Value.int IntKind.i64 e.life, Value.int IntKind.i64 e.peer, Value.int IntKind.i64 e.phase, Value.int IntKind.i64 e.base, Value.slice (some ⟨(i + 64), 0, some 4⟩) e.outs.length e.outs.length, Value.int IntKind.i64 e.want, Value.slice (some ⟨(j + 64), 0, some 4⟩) e.ins.length e.ins.length] true] B) ∧ ∀ (es1 : List MapEntry) (c2 : Nat), Look es1 (insF e.ins) → (Ide.cellAt (B ++ [.cells (xw e (List.length B + 64 + 1) (j + 64) (List.length B + 64 + 2)) true, .cells (outC e.outs) true, .map es1 c2]) (List.length B) 2 = some (Value.int IntKind.i64 e.phase) ∧ (Ide.bcase (e.phase != 3)
 (([Value.pointer (some ⟨((List.length B) + 64), 0, none⟩)] : List Value) = ([Value.pointer (some ⟨((List.length B) + 64), 0, none⟩)] : List Value) ∧ (XAt e (insF e.ins) (List.length B + 64) (List.length B + 1 + 64) [] (j + 64) (List.length B + 2 + 64) true (Ide.pad 64 [.cells [Value.int IntKind.i64 e.life, Value.int IntKind.i64 e.peer, Value.int IntKind.i64 e.phase, Value.int IntKind.i64 e.base, Value.slice (some ⟨(i + 64), 0, some 4⟩) e.outs.length e.outs.length, Value.int IntKind.i64 e.want, Value.slice (some ⟨(j + 64), 0, some 4⟩) e.ins.length e.ins.length] true] (B ++ [.cells (xw e (List.length B + 64 + 1) (j + 64) (List.length B + 64 + 2)) true, .cells (outC e.outs) true, .map es1 c2]))) ∧ (R (IEnd.ret (Value.tuple ⟨[Value.slice (some ⟨1, 0, some 15⟩) 1 1, Value.int IntKind.i64 0]⟩)) (Ide.pad 64 [.cells [Value.int IntKind.i64 e.life, Value.int IntKind.i64 e.peer, Value.int IntKind.i64 e.phase, Value.int IntKind.i64 e.base, Value.slice (some ⟨(i + 64), 0, some 4⟩) e.outs.length e.outs.length, Value.int IntKind.i64 e.want, Value.slice (some ⟨(j + 64), 0, some 4⟩) e.ins.length e.ins.length] true, .cells [Value.int IntKind.i64 ((greetS e).kind), Value.int IntKind.i64 ((greetS e).src), Value.int IntKind.i64 ((greetS e).dst), Value.int IntKind.i64 ((greetS e).num), Value.string (greetS e).text, Value.int IntKind.i64 ((greetS e).ack), Value.int IntKind.i64 ((greetS e).held)] true] (B ++ [.cells (xw e (List.length B + 64 + 1) (j + 64) (List.length B + 64 + 2)) true, .cells (outC e.outs) true, .map es1 c2]))))
 (([Value.pointer (some ⟨((List.length B) + 64), 0, none⟩)] : List Value) = ([Value.pointer (some ⟨((List.length B) + 64), 0, none⟩)] : List Value) ∧ (XAt e (insF e.ins) (List.length B + 64) (List.length B + 1 + 64) [] (j + 64) (List.length B + 2 + 64) true (Ide.pad 64 [.cells [Value.int IntKind.i64 e.life, Value.int IntKind.i64 e.peer, Value.int IntKind.i64 e.phase, Value.int IntKind.i64 e.base, Value.slice (some ⟨(i + 64), 0, some 4⟩) e.outs.length e.outs.length, Value.int IntKind.i64 e.want, Value.slice (some ⟨(j + 64), 0, some 4⟩) e.ins.length e.ins.length] true] (B ++ [.cells (xw e (List.length B + 64 + 1) (j + 64) (List.length B + 64 + 2)) true, .cells (outC e.outs) true, .map es1 c2]))) ∧ (IWRL rt none Pr 46 (.block 0 (.loop L17) :: C17) (bodyS Pr (ressOf Pr 17) R) [(2, Value.slice none 0 0), (3, Value.int IntKind.i64 0), (4, Value.pointer (some ⟨((List.length B) + 64), 0, none⟩)), (5, Value.slice none 0 0), (23, sentV e (List.length B + 1 + 64)), (24, Value.int IntKind.i64 (((flyS e).toNat : Nat) : Int)), (25, Value.int IntKind.i64 0)] (Ide.pad 64 [.cells [Value.int IntKind.i64 e.life, Value.int IntKind.i64 e.peer, Value.int IntKind.i64 e.phase, Value.int IntKind.i64 e.base, Value.slice (some ⟨(i + 64), 0, some 4⟩) e.outs.length e.outs.length, Value.int IntKind.i64 e.want, Value.slice (some ⟨(j + 64), 0, some 4⟩) e.ins.length e.ins.length] true] (B ++ [.cells (xw e (List.length B + 64 + 1) (j + 64) (List.length B + 64 + 2)) true, .cells (outC e.outs) true, .map es1 c2])))))))))) (by kernel_rfl) ?_
  refine ⟨rfl, gH _, bcI (fun hg => ?_) fun hg => ⟨rfl, gH _, fun es c L => ?_⟩⟩
  · rw [hR, hB]
    refine slot_plain _ rfl ?_
    unfold TickR
    rw [if_neg (by simpa using hg)]
    exact ⟨rfl, rfl⟩
  have hok : fineS e = true := by simpa using hg
  obtain ⟨base, hbase⟩ : ∃ base, base = B ++ [.cells (xw e (B.length + 64 + 1) (j + 64) (B.length + 64 + 2)) true, .cells (outC e.outs) true, .map es c] := ⟨_, rfl⟩
  have gX : ∀ l, XAt e (insF e.ins) (B.length + 64) (B.length + 1 + 64) [] (j + 64) (B.length + 2 + 64) true (pad 64 l base) := fun l =>
    ⟨by rw [pad_high, hbase, get_app0]; rfl, by rw [pad_high, hbase, get_app]; rfl, es, c, by rw [pad_high, hbase, get_app]; rfl, L⟩
  have gx : base[B.length]? = some (.cells (xw e (B.length + 64 + 1) (j + 64) (B.length + 64 + 2)) true) := by rw [hbase, get_app0]; rfl
  have go : base[B.length + 1]? = some (.cells (outC e.outs) true) := by rw [hbase, get_app]; rfl
  rw [← hbase]
  refine ⟨cellAt_of gx rfl, bcI (fun hp => ⟨rfl, gX _, ?_⟩) fun hp => ⟨rfl, gX _, ?_⟩⟩
  · have hp : ¬ e.phase = 3 := by simpa using hp
    rw [hR, hbase, hBl, hB]
    refine slot_ext _ (.tuple ⟨[pksV (stickP e) (H.length + 3), .int .i64 0]⟩) [1] [.cells (xw e (H.length + 64 + 1) (j + 64) (H.length + 64 + 2)) true, .cells (outC e.outs) true, .map es c] [.cells (xw e (H.length + 1) j (H.length + 2)) true, .cells (outC e.outs) true, .map es c] [.cells (pksC (stickP e)) true] (by decide) rfl
      ⟨?_, LessO.plain (ground_outC _), LessO.plain (look_plain L c), trivial⟩ (newsAt_plain (by unfold stickP; rw [if_neg hp]; rfl) (ground_pksC _) trivial) ?_ ?_
    · refine LessO.same' ?_
      show IObj.cells (mvV.goL (unS [1] (H.length + 3)) (xw e (H.length + 1 + 64) (j + 64) (H.length + 2 + 64))) true = _
      rw [mv_xw (unS_sh _ _ _) (unS_sh _ _ _) (unS_sh _ _ _)]
    · unfold stickP
      rw [if_neg hp]
      exact Less.tuple ⟨Less.odd _ _ 7 1, Less.refl _, trivial⟩
    · unfold TickR
      rw [if_pos hok]
      exact ⟨_, _, rfl, rfl, by simp, by omega⟩
  · have hp : e.phase = 3 := by simpa using hp
    have hu : ∀ o ∈ base, Up o := by
      rw [hbase, hB]
      intro o ho
      rcases List.mem_append.1 ho with ho | ho
      · exact up_sh o ho
      · simp only [List.mem_cons, List.not_mem_nil, or_false] at ho
        rcases ho with rfl | rfl | rfl
        · intro σ hσ
          show IObj.cells (mvV.goL σ (xw e ((H.map (mvO shU)).length + 1 + 64) (j + 64) ((H.map (mvO shU)).length + 2 + 64))) true = _
          rw [mv_xw (hσ _) (hσ _) (hσ _)]
        · exact Up.plain (ground_outC _)
        · exact Up.plain (look_plain L c)
    have hbl : base.length = H.length + 3 := by rw [hbase]; simp [hBl]
    refine IWRL.move (by simp) (Move.up hu (by rw [hbl]; omega) (mp := []) (l2 := [.cells (intsC []) true]) rfl trivial
      (env2 := [(2, .slice none 0 0), (3, .int .i64 0), (4, ptrTo (B.length + 64) 0), (5, intsV [] 0), (23, sentV e (B.length + 1 + 64)), (24, .int .i64 (((flyS e).toNat : Nat) : Int)), (25, .int .i64 (((([] : List (ByteArray × Bool)).length : Nat)) : Int))])
      ⟨⟨rfl, Less.refl _⟩, ⟨rfl, Less.refl _⟩, ⟨rfl, Less.same (by kernel_rfl)⟩, ⟨rfl, Less.nil _ _ _⟩, ⟨rfl, Less.same (by kernel_rfl)⟩, ⟨rfl, Less.refl _⟩, ⟨rfl, Less.refl _⟩, trivial⟩) ?_
    refine iwrl_loop (LWQ.weaken (stick_l hu (by rw [hbl]; omega) go hon _ e.outs [] [] rfl (Nat.le_refl _) (by simp) fun k => ?_) (lk_keep [4, 5, 23, 24, 25] [(2, .slice none 0 0), (3, .int .i64 0), (4, ptrTo (B.length + 64) 0), (5, intsV [] 0), (23, sentV e (B.length + 1 + 64)), (24, .int .i64 (((flyS e).toNat : Nat) : Int)), (25, .int .i64 (((([] : List (ByteArray × Bool)).length : Nat)) : Int))]))
    obtain ⟨ns, hns⟩ : ∃ ns, ns = [] ++ tickN (flyS e) ([] : List (ByteArray × Bool)).length e.outs := ⟨_, rfl⟩
    show IWRL rt none Pr 46 C17 (bodyS Pr (ressOf Pr 17) R) _ _
    rw [← hns]
    have hmem : ∀ x ∈ ns, 0 ≤ x ∧ x < e.outs.length := fun x hx => by
      rw [hns] at hx
      have := tickN_mem (n := flyS e) hx
      omega
    have hlen : ns.length ≤ e.outs.length := by rw [hns]; exact tickN_len _ _ _
    have ht : stickP e = eachP (insF e.ins) e ns ++ [reportX (insF e.ins) e] := by unfold stickP; rw [if_pos hp, hns]; rfl
    have hel : (eachP (insF e.ins) e ns).length = ns.length := by simp [eachP]
    refine iwrl_last (hs := []) (sc := scSTc e j ns B.length) (rf := true) mixed (scSTc_ok hmem (by omega)) 40 C17 (by kernel_rfl) ?_
    refine Eq.mp (α := (([intsV ns 0, Value.func (Fn.func 48) ⟨[Value.pointer (some ⟨((List.length B) + 64), 0, none⟩)]⟩ ⟨[]⟩] : List Value) = ([intsV ns 0, Value.func (Fn.func 48) ⟨[Value.pointer (some ⟨((List.length B) + 64), 0, none⟩)]⟩ ⟨[]⟩] : List Value) ∧ ((XAt e (insF e.ins) (List.length B + 64) (List.length B + 1 + 64) [] (j + 64) (List.length B + 2 + 64) true (Ide.pad 64 [.cells (intsC ns) true] base) ∧ ((Ide.pad 64 [.cells (intsC ns) true] base) : IHeap)[0]? = some (.cells (intsC ns) true)) ∧ List.length (Ide.pad 64 [.cells (intsC ns) true] base) = (List.length B + 3) + 64) ∧ (([Value.pointer (some ⟨((List.length B) + 64), 0, none⟩)] : List Value) = ([Value.pointer (some ⟨((List.length B) + 64), 0, none⟩)] : List Value) ∧ (XAt e (insF e.ins) (List.length B + 64) (List.length B + 1 + 64) [] (j + 64) (List.length B + 2 + 64) true (Ide.pad 64 [.cells (intsC ns) true] (base ++ [.cells (pksC (eachP (insF e.ins) e ns)) true]))) ∧ (((((eachP (insF e.ins) e ns).length) + 1) * 64 ≤ 70368744177664 ∧ ((eachP (insF e.ins) e ns).length) + 1 ≤ 70368744177664) ∧ (∃ cs1 : List Value, Ide.cellsAt (base ++ [.cells (pksC (eachP (insF e.ins) e ns)) true]) (List.length B + 3) 0 (((eachP (insF e.ins) e ns).length) * 7) = some cs1 ∧ (0 + 1 * 7 ≤ List.length ([Value.int IntKind.i64 ((reportX (insF e.ins) e).kind), Value.int IntKind.i64 ((reportX (insF e.ins) e).src), Value.int IntKind.i64 ((reportX (insF e.ins) e).dst), Value.int IntKind.i64 ((reportX (insF e.ins) e).num), Value.string (reportX (insF e.ins) e).text, Value.int IntKind.i64 ((reportX (insF e.ins) e).ack), Value.int IntKind.i64 ((reportX (insF e.ins) e).held)] : List Value) ∧ ((7 = 7 ∧ true = true) ∧ ((eachP (insF e.ins) e ns).length) < (((eachP (insF e.ins) e ns).length) + 1) ∧ (∃ cs : List Value, (base ++ [.cells (pksC (eachP (insF e.ins) e ns)) true] : IHeap)[List.length B + 3]? = some (.cells cs true)) ∧ (R (IEnd.ret (Value.tuple ⟨[Value.slice (some ⟨2, 0, some 14⟩) (((eachP (insF e.ins) e ns).length) + 1) (((eachP (insF e.ins) e ns).length) + 1), Value.int IntKind.i64 0]⟩)) (Ide.pad 64 [.cells (intsC ns) true, .cells [Value.int IntKind.i64 ((reportX (insF e.ins) e).kind), Value.int IntKind.i64 ((reportX (insF e.ins) e).src), Value.int IntKind.i64 ((reportX (insF e.ins) e).dst), Value.int IntKind.i64 ((reportX (insF e.ins) e).num), Value.string (reportX (insF e.ins) e).text, Value.int IntKind.i64 ((reportX (insF e.ins) e).ack), Value.int IntKind.i64 ((reportX (insF e.ins) e).held)] true, .cells ((cs1 : List Value) ++ [Value.int IntKind.i64 ((reportX (insF e.ins) e).kind), Value.int IntKind.i64 ((reportX (insF e.ins) e).src), Value.int IntKind.i64 ((reportX (insF e.ins) e).dst), Value.int IntKind.i64 ((reportX (insF e.ins) e).num), Value.string (reportX (insF e.ins) e).text, Value.int IntKind.i64 ((reportX (insF e.ins) e).ack), Value.int IntKind.i64 ((reportX (insF e.ins) e).held)]) true] (List.set (base ++ [.cells (pksC (eachP (insF e.ins) e ns)) true]) (List.length B + 3) (.dead))))))))))) (by kernel_rfl) ?_
    have b1 : base ++ [.cells (pksC (eachP (insF e.ins) e ns)) true] = B ++ [.cells (xw e (B.length + 64 + 1) (j + 64) (B.length + 64 + 2)) true, .cells (outC e.outs) true, .map es c, .cells (pksC (eachP (insF e.ins) e ns)) true] := by rw [hbase]; simp
    rw [b1]
    refine ⟨rfl, ⟨⟨gX _, rfl⟩, by rw [pad_len, hbl, hBl]; omega⟩, rfl, ⟨by rw [pad_high, get_app0]; rfl, by rw [pad_high, get_app]; rfl, es, c, by rw [pad_high, get_app]; rfl, L⟩, ⟨by omega, by omega⟩, pksC (eachP (insF e.ins) e ns), ?_, Nat.le_refl _, ⟨rfl, rfl⟩, by omega, ⟨_, get_app _ _ 3⟩, ?_⟩
    · exact cellsAt_known (get_app _ _ 3) (by rw [pksC_len]; omega) (pksC_all _)
    · rw [set_app, hR, hBl, hB]
      refine slot_ext _ (.tuple ⟨[pksV (stickP e) (H.length + 4), .int .i64 0]⟩) [2] [.cells (xw e (H.length + 64 + 1) (j + 64) (H.length + 64 + 2)) true, .cells (outC e.outs) true, .map es c, .dead] [.cells (xw e (H.length + 1) j (H.length + 2)) true, .cells (outC e.outs) true, .map es c, .dead] [.cells (pksC (stickP e)) true] (by decide) rfl
        ⟨?_, LessO.plain (ground_outC _), LessO.plain (look_plain L c), .inl rfl, trivial⟩ (newsAt_plain (by rw [ht, pksC_app]; rfl) (ground_pksC _) trivial) ?_ ?_
      · refine LessO.same' ?_
        show IObj.cells (mvV.goL (unS [2] (H.length + 4)) (xw e (H.length + 1 + 64) (j + 64) (H.length + 2 + 64))) true = _
        rw [mv_xw (unS_sh _ _ _) (unS_sh _ _ _) (unS_sh _ _ _)]
      · refine Less.tuple ⟨?_, Less.refl _, trivial⟩
        unfold pksV
        rw [ht, List.length_append]
        exact Less.same rfl
      · unfold TickR
        rw [if_pos hok]
        exact ⟨_, _, rfl, rfl, by simp, by omega⟩

end
end Go.Proofs.Ytoikiogaiikheaa.Sess
