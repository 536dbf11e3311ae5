/- Functions, part by part; loops. -/
import Derived.Test.YtoikiogaiikheaaSndAL
import Derived.Test.YtoikiogaiikheaaProg
set_option linter.unusedSectionVars false
set_option linter.unusedVariables false
set_option linter.unusedSimpArgs false
namespace Ide
open Go Go.RowKit
variable [Pol]

def bodyOf (P : Program) (f : FuncId) : Code := match P.funcs[f]? with | some fn => (match fn.body with | some c => c | none => .skip) | none => .skip
def ntOf (P : Program) (f : FuncId) : Nat := match P.funcs[f]? with | some fn => fn.ntmps | none => 0
def ressOf (P : Program) (f : FuncId) : List ResultVar := match P.funcs[f]? with | some fn => fn.results.toList | none => []
def fnOkN (P : Program) (f : FuncId) (n : Nat) : Bool := fnOk P f && Nat.ble n (ntOf P f)

/-- What a function hands back, as it is to be seen. -/
def sresGo (P : Program) : List ResultVar → Env → IHeap → List Value → (List Value → Prop) → Prop
  | [], _, _, acc, K => K acc
  | .tmp t :: r, env, H, acc, K => sresGo P r env H (acc ++ [lk env t]) K
  | .cell a t :: r, env, H, acc, K => ptrAt (lk env a) fun i o => sload P false t H i o fun v => sresGo P r env H (acc ++ [v]) K
theorem sresGo_sound {P : Program} {env : Env} {H : IHeap} {K : List Value → Prop} : ∀ (rs : List ResultVar) (acc : List Value), sresGo P rs env H acc K → resGo P rs env H acc K
  | [], acc, h => h
  | .tmp t :: r, acc, h => sresGo_sound r _ h
  | .cell a t :: r, acc, h => by
    simp only [sresGo] at h
    simp only [resGo]
    unfold ptrAt at h ⊢
    split at h
    · unfold pcase at h ⊢
      split at h
      · exact det_load.mono (fun v h => sresGo_sound r _ h) (sload_sound h)
      · exact h.elim
    · exact h.elim

/-- Ways a function ends. -/
def bodyS (P : Program) (rs : List ResultVar) (R : IEnd → IHeap → Prop) : IExit → Env → IHeap → Prop
  | .normal, env, H => sresGo P rs env H [] fun vs => R (.ret (oneV vs)) H
  | .ret, env, H => sresGo P rs env H [] fun vs => R (.ret (oneV vs)) H
  | .panic v, _, H => R (.panic v) H
  | .exit _, _, _ => False
theorem bodyS_sound {P : Program} {rs : List ResultVar} {R : IEnd → IHeap → Prop} (e : IExit) (env : Env) (H : IHeap) (h : bodyS P rs R e env H) : bodyQ P rs R e env H := by
  cases e with
  | normal => exact sresGo_sound rs [] h
  | ret => exact sresGo_sound rs [] h
  | panic v => exact h
  | exit id => exact h

/-- A function's contract, part by part. -/
theorem icalls_sx {P : Program} {f : FuncId} {args : List Value} {H : IHeap} {R : IEnd → IHeap → Prop} (hok : fnOkN P f args.length = true)
    (h0 : IWL none P (ntOf P f) (spine (bodyOf P f) []) (bodyS P (ressOf P f) R) (envOf 0 args) H) : ICalls P f args H R := by
  have h := IWL.mono _ bodyS_sound h0
  simp only [fnOkN, Bool.and_eq_true] at hok
  obtain ⟨hok, hn⟩ := hok
  unfold fnOk at hok
  unfold ntOf ressOf bodyOf at h
  unfold ntOf at hn
  split at hok
  · rename_i fn h1
    simp only [h1] at h hn
    split at hok
    · rename_i c h2
      simp only [h2] at h
      simp only [Bool.and_eq_true, Bool.not_eq_true'] at hok
      exact icalls_of_iw ⟨h1, h2, hok.1.1, hok.1.2, hok.2, Nat.le_of_ble_eq_true hn⟩ (iw_of_spine h)
    · cases hok
  · cases hok

mutual
theorem inV_ground (n : Nat) : ∀ (v : Value), ground v = true → inV n v = true
  | .bool _, _ => rfl
  | .int .., _ => rfl
  | .string _, _ => rfl
  | .pointer none, _ => rfl
  | .pointer (some _), h => by simp [ground] at h
  | .slice none a b, _ => rfl
  | .slice (some _) _ _, h => by simp [ground] at h
  | .map none, _ => rfl
  | .map (some _), h => by simp [ground] at h
  | .nilFunc, _ => rfl
  | .nilIface, _ => rfl
  | .iface t v, h => by simp only [inV]; exact inV_ground n v (by simpa [ground] using h)
  | .agg ⟨l⟩, h => by simp only [inV, inV.go]; exact inVs_ground n l (by simpa [ground, ground.groundA] using h)
  | .float .., h => by simp [ground] at h
  | .complex .., h => by simp [ground] at h
  | .chan _, h => by simp [ground] at h
  | .func .., h => by simp [ground] at h
  | .tuple _, h => by simp [ground] at h
theorem inVs_ground (n : Nat) : ∀ (l : List Value), ground.groundL l = true → inV.goL n l = true
  | [], _ => rfl
  | v :: l, h => by
    have h' : ground v = true ∧ ground.groundL l = true := by simpa [ground.groundL] using h
    simp only [inV.goL, inV_ground n v h'.1, inVs_ground n l h'.2, Bool.and_self]
 end

theorem bcI {b : Bool} {X Y : Prop} (h1 : b = true → X) (h2 : b = false → Y) : bcase b X Y := by
  cases b with
  | true => exact h1 rfl
  | false => exact h2 rfl

/-- What goes on behind a part, of which only some temporaries are known further on. -/
def thnk (l : List Nat) (next : Env → IHeap → Prop) (Q : IExit → Env → IHeap → Prop) : IExit → Env → IHeap → Prop
  | .normal, env, H => next (keep l env) H
  | .exit id, env, H => Q (.exit id) (keep l env) H
  | .ret, env, H => Q .ret (keep l env) H
  | .panic _, _, _ => False

theorem IW.kept {ro : Option Nat} {P : Program} {nt : Nat} {c : Code} {Q : IExit → Env → IHeap → Prop} {env : Env} {H : IHeap} (l : List Nat) (next : Env → IHeap → Prop)
    (hq : ∀ env H, next env H → Q .normal env H) (h : IW ro P nt c (thnk l next Q) env H) : IW ro P nt c Q env H := by
  intro n0 β w a S hT hM
  refine wpIn_mono (h n0 β w a S hT hM) fun e a' w' h => ?_
  cases e with
  | normal => obtain ⟨β', H', env', St, S', hT', hM', hn⟩ := h; exact ⟨β', H', _, St, S', hT'.keep l, hM', hq _ _ hn⟩
  | exit id => obtain ⟨β', H', env', St, S', hT', hM', hn⟩ := h; exact ⟨β', H', _, St, S', hT'.keep l, hM', hn⟩
  | ret => obtain ⟨β', H', env', St, S', hT', hM', hn⟩ := h; exact ⟨β', H', _, St, S', hT'.keep l, hM', hn⟩
  | panic ch => obtain ⟨β', H', env', v, v', St, S', hch, hv, hM', hsz, hn⟩ := h; exact hn.elim
  | goto t => exact h
  | outgrown => exact h

/-- Parts without loops, ahead of others. -/
theorem iwl_segk {P : Program} {hs : List Nat} {sc : SCall} {nt : Nat} {ro : Option Nat} {rf : Bool} (hm : P.follows .mixedOrders = true) (hsc : SOk P sc) (l : List Nat) :
    ∀ (A : List Code) (b : Code) (bs : List Code) {Q : IExit → Env → IHeap → Prop} {env : Env} {H : IHeap}, A.all (codeOk P nt rf) = true → sxl P hs sc A (thnk l (fun env H => IWL ro P nt (b :: bs) Q env H) Q) env H → IWL ro P nt (A ++ b :: bs) Q env H
  | [], b, bs, Q, env, H, hok, h => IW.weaken h fun t => lk_keep l env t
  | c :: A, b, bs, Q, env, H, hok, h => by
    simp only [List.all_cons, Bool.and_eq_true] at hok
    have h1 := sx_sound (ro := ro) hm hsc c _ _ _ hok.1 h
    show IW ro P nt c (thn (fun env H => IWL ro P nt (A ++ b :: bs) Q env H) Q) env H
    intro n0 β w a S hT hM
    refine wpIn_mono (h1 n0 β w a S hT hM) fun e a' w' h => ?_
    cases e with
    | normal =>
      obtain ⟨β', H', env', St, S', hT', hM', hn⟩ := h
      exact ⟨β', H', _, St, S', hT', hM', iwl_segk hm hsc l A b bs hok.2 hn⟩
    | exit id => obtain ⟨β', H', env', St, S', hT', hM', hn⟩ := h; exact ⟨β', H', _, St, S', hT'.keep l, hM', hn⟩
    | ret => obtain ⟨β', H', env', St, S', hT', hM', hn⟩ := h; exact ⟨β', H', _, St, S', hT'.keep l, hM', hn⟩
    | panic ch => obtain ⟨β', H', env', v, v', St, S', hch, hv, hM', hsz, hn⟩ := h; exact hn.elim
    | goto t => exact h
    | outgrown => exact h

/-- A loop, ahead of other parts. -/
theorem iwl_loop {P : Program} {nt : Nat} {ro : Option Nat} {id : Nat} {L : Code} {bs : List Code} {Q : IExit → Env → IHeap → Prop} {env : Env} {H : IHeap}
    (h : LW ro P nt L (inB id (thn (fun env H => IWL ro P nt bs Q env H) Q)) env H) : IWL ro P nt (.block id (.loop L) :: bs) Q env H :=
  block_of (loop_of0 h)

/-- One round of a loop; what it makes is left out behind it. -/
theorem loop_sx {P : Program} {hs : List Nat} {sc : SCall} {nt : Nat} {ro : Option Nat} {rf : Bool} (hm : P.follows .mixedOrders = true) (hsc : SOk P sc) (l : List Nat) {L : Code} {Q : IExit → Env → IHeap → Prop} {env : Env} {H : IHeap}
    (hok : codeOk P nt rf L = true) (hH : H.all (inO H.length) = true)
    (h : sx P hs sc L (thnk l (fun env' H' => envIn H.length env' = true ∧ H'.take H.length = H ∧ LW ro P nt L Q env' H) (fun e env' H' => envIn H.length env' = true ∧ H'.take H.length = H ∧ Q e env' H)) env H) : LW ro P nt L Q env H := by
  refine loop_step0 (IW.trunc H.length (Nat.le_refl _) ?_)
  refine IW.kept l (fun env' H' => envIn H.length env' = true ∧ H'.take H.length = H ∧ LW ro P nt L Q env' H) ?_ (IW.mono (sx_sound (ro := ro) hm hsc L _ _ _ hok h) fun e env' H' hq => ?_)
  · rintro env' H' ⟨h1, h2, h3⟩
    exact ⟨env', fun t => .inl rfl, h1, by rw [h2]; exact hH, fun v => by simp, by rw [h2]; exact h3⟩
  · cases e with
    | normal => exact hq
    | exit id =>
      obtain ⟨h1, h2, h3⟩ := hq
      exact ⟨_, fun t => .inl rfl, h1, by rw [h2]; exact hH, fun v => by simp, by rw [h2]; exact h3⟩
    | ret =>
      obtain ⟨h1, h2, h3⟩ := hq
      exact ⟨_, fun t => .inl rfl, h1, by rw [h2]; exact hH, fun v => by simp, by rw [h2]; exact h3⟩
    | panic v => exact hq.elim

theorem LW.keep {P : Program} {nt : Nat} {ro : Option Nat} {L : Code} {Q : IExit → Env → IHeap → Prop} {env env' : Env} {H : IHeap} (h : LW ro P nt L Q env' H) (hw : ∀ t, lk env' t = lk env t ∨ lk env' t = anyV) : LW ro P nt L Q env H := by
  intro n0 β w a S hT hM
  exact h n0 β w a S ⟨hT.1, fun t ht => by rcases hw t with e | e <;> rw [e] <;> first | exact hT.2 t ht | exact .any _⟩ hM

theorem wrap_i64 {x : Int} (h1 : -9223372036854775808 ≤ x) (h2 : x ≤ 9223372036854775807) : IntKind.wrap .i64 x = x := by
  show (if (true && decide (x % (2 ^ 64 : Int) ≥ (2 ^ 63 : Int))) = true then x % (2 ^ 64 : Int) - (2 ^ 64 : Int) else x % (2 ^ 64 : Int)) = x
  have e1 : (2 ^ 64 : Int) = 18446744073709551616 := by decide
  have e2 : (2 ^ 63 : Int) = 9223372036854775808 := by decide
  rw [e1, e2]
  by_cases h : x % 18446744073709551616 ≥ 9223372036854775808
  · simp only [h, decide_true, Bool.true_and, if_true]
    omega
  · simp only [h, decide_false, Bool.and_false]
    simp
    omega

end Ide

/- Ends of sessions, as values; the small functions. -/
set_option linter.unusedVariables false
set_option linter.unusedSimpArgs false
set_option maxRecDepth 10000
namespace Go.Proofs.Ytoikiogaiikheaa.Sess
open Go Go.RowKit Ide Go.Proofs

noncomputable abbrev Pr : Program := Try.prog
theorem mixed : Pr.follows .mixedOrders = true := by kernel_rfl

structure SE where
  life : Int
  peer : Int
  phase : Int
  base : Int
  want : Int
  oz : Bool
  iz : Bool
  outs : List (ByteArray × Bool)
  ins : List (Int × ByteArray)

def outC (l : List (ByteArray × Bool)) : List Value := l.flatMap fun x => [.string x.1, .bool x.2]
def inC (l : List (Int × ByteArray)) : List Value := l.flatMap fun x => [.int .i64 x.1, .string x.2]
def adr (z : Bool) (i : Nat) : Option Addr := match z with | true => none | false => some ⟨i, 0, some 4⟩
def endW (e : SE) (a1 a2 : Option Addr) : List Value := [.int .i64 e.life, .int .i64 e.peer, .int .i64 e.phase, .int .i64 e.base, .slice a1 e.outs.length e.outs.length, .int .i64 e.want, .slice a2 e.ins.length e.ins.length]
def endV (e : SE) : Value := .agg ⟨endW e (adr e.oz 0) (adr e.iz 1)⟩
def endH (e : SE) : IHeap := [.cells (outC e.outs) false, .cells (inC e.ins) false]

structure Wf (e : SE) : Prop where
  oz : e.oz = true → e.outs = []
  iz : e.iz = true → e.ins = []
  on : e.outs.length ≤ 9223372036854775807
  inn : e.ins.length ≤ 9223372036854775807

theorem outC_get (a : List (ByteArray × Bool)) (x : ByteArray × Bool) (b : List (ByteArray × Bool)) : (outC (a ++ x :: b))[2 * a.length]? = some (.string x.1) ∧ (outC (a ++ x :: b))[2 * a.length + 1]? = some (.bool x.2) := by
  induction a with
  | nil => exact ⟨rfl, rfl⟩
  | cons y a ih =>
    have e : outC ((y :: a) ++ x :: b) = .string y.1 :: .bool y.2 :: outC (a ++ x :: b) := rfl
    rw [e, List.length_cons, show 2 * (a.length + 1) = 2 * a.length + 1 + 1 by omega, show 2 * a.length + 1 + 1 + 1 = (2 * a.length + 1) + 1 + 1 by omega]
    simp only [List.getElem?_cons_succ]
    exact ih
theorem inC_get (a : List (Int × ByteArray)) (x : Int × ByteArray) (b : List (Int × ByteArray)) : (inC (a ++ x :: b))[2 * a.length]? = some (.int .i64 x.1) ∧ (inC (a ++ x :: b))[2 * a.length + 1]? = some (.string x.2) := by
  induction a with
  | nil => exact ⟨rfl, rfl⟩
  | cons y a ih =>
    have e : inC ((y :: a) ++ x :: b) = .int .i64 y.1 :: .string y.2 :: inC (a ++ x :: b) := rfl
    rw [e, List.length_cons, show 2 * (a.length + 1) = 2 * a.length + 1 + 1 by omega, show 2 * a.length + 1 + 1 + 1 = (2 * a.length + 1) + 1 + 1 by omega]
    simp only [List.getElem?_cons_succ]
    exact ih

theorem ground_outC : ∀ l, ground.groundL (outC l) = true
  | [] => rfl
  | x :: l => by show (true && (true && ground.groundL (outC l))) = true; rw [ground_outC l]; rfl
theorem ground_inC : ∀ l, ground.groundL (inC l) = true
  | [] => rfl
  | x :: l => by show (true && (true && ground.groundL (inC l))) = true; rw [ground_inC l]; rfl
/-- A contract over one end, where its two blocks are the first. -/
theorem lift1 {f : FuncId} {e : SE} {v : Value} (hv : plainV v = true) (h : ICalls Pr f [endV e] (endH e) (fun r _ => r = .ret v)) {H : IHeap} (h0 : H[0]? = some (.cells (outC e.outs) false)) (h1 : H[1]? = some (.cells (inC e.ins) false)) :
    ICalls Pr f [endV e] H (fun r H' => r = .ret v ∧ H' = H) := by
  have h2 : ICalls Pr f [endV e] (endH e) (fun r H' => r = .ret v ∧ ∀ (i : Nat) (o : IObj), (endH e)[i]? = some o → o.own = true → H'[i]? = some o) := by
    refine h.mono fun r H' hr => ⟨hr, fun i o ho hown => ?_⟩
    match i, ho with
    | 0, ho => cases ho; cases hown
    | 1, ho => cases ho; cases hown
    | i + 2, ho => simp [endH] at ho
  have h3 := h2.frame id (plainV_rel hv) (H := H) ?_ ?_ ?_ ?_
  · rw [ren_ids] at h3
    exact h3
  · simp [endH, plainO, ground_outC, ground_inC]
  · cases e with | mk a b c d w oz iz outs ins => cases oz <;> cases iz <;> rfl
  · intro i hi
    match i, hi with
    | 0, _ => exact h0
    | 1, _ => exact h1
    | i + 2, hi => exact absurd hi (by simp [endH])
  · intro i j _ _ h
    exact h

/-- A contract that asks for nothing of memory. -/
theorem lift0 {f : FuncId} {args : List Value} {v : Value} (hv : plainV v = true) (ha : inV.goL 0 args = true) (h : ICalls Pr f args [] (fun r _ => r = .ret v)) (H : IHeap) :
    ICalls Pr f args H (fun r H' => r = .ret v ∧ H' = H) := by
  have h2 : ICalls Pr f args [] (fun r H' => r = .ret v ∧ ∀ (i : Nat) (o : IObj), ([] : IHeap)[i]? = some o → o.own = true → H'[i]? = some o) := h.mono fun r H' hr => ⟨hr, fun i o ho => by simp at ho⟩
  have h3 := h2.frame id (plainV_rel hv) (H := H) rfl ha (fun i hi => absurd hi (Nat.not_lt_zero _)) (fun i j hi => absurd hi (Nat.not_lt_zero _))
  rw [ren_ids] at h3
  exact h3

/-! ### in -/
def inS (n lo hi : Int) : Bool := decide (lo ≤ n) && decide (n ≤ hi)
theorem in_ok (n lo hi : Int) (H : IHeap) : ICalls Pr 35 [.int .i64 n, .int .i64 lo, .int .i64 hi] H (fun r H' => r = .ret (.bool (inS n lo hi)) ∧ H' = H) := by
  refine lift0 rfl rfl (icalls_sx (by kernel_rfl) (iwl_last (hs := []) (rf := true) mixed sc0_ok _ (by kernel_rfl) ?_)) H
  refine Eq.mp (α := (Ide.bcase (decide (n ≥ lo))
 (IEnd.ret (Value.bool (decide (n ≤ hi))) = IEnd.ret (Value.bool (inS n lo hi)))
 (IEnd.ret (Value.bool false) = IEnd.ret (Value.bool (inS n lo hi))))) (by kernel_rfl) ?_
  refine bcI (fun h => ?_) (fun h => ?_) <;> simp_all [inS]
  omega

/-! ### Flying -/
def flyS (e : SE) : Int := if e.phase = 3 then (if e.outs.length > 4 then 4 else (e.outs.length : Int)) else 0
theorem fly_ok (e : SE) {H : IHeap} (h0 : H[0]? = some (.cells (outC e.outs) false)) (h1 : H[1]? = some (.cells (inC e.ins) false)) : ICalls Pr 38 [endV e] H (fun r H' => r = .ret (.int .i64 (flyS e)) ∧ H' = H) := by
  refine lift1 rfl (icalls_sx (by kernel_rfl) (iwl_last (hs := []) (rf := true) mixed sc0_ok _ (by kernel_rfl) ?_)) h0 h1
  refine Eq.mp (α := (Ide.bcase (e.phase != 3)
 (IEnd.ret (Value.int IntKind.i64 0) = IEnd.ret (Value.int .i64 (flyS e)))
 (Ide.bcase (decide (((e.outs.length : Nat) : Int) > 4))
 (IEnd.ret (Value.int IntKind.i64 4) = IEnd.ret (Value.int .i64 (flyS e)))
 (IEnd.ret (Value.int IntKind.i64 ((e.outs.length : Nat) : Int)) = IEnd.ret (Value.int .i64 (flyS e)))))) (by kernel_rfl) ?_
  refine bcI (fun h => ?_) (fun h => ?_)
  · simp_all [flyS]
  · refine bcI (fun h => ?_) (fun h => ?_) <;> simp_all [flyS] <;> omega

/-! ### Start -/
/-- An end without messages. -/
def endN (life phase : Int) : Value := .agg ⟨[.int .i64 life, .int .i64 0, .int .i64 phase, .int .i64 0, .slice none 0 0, .int .i64 0, .slice none 0 0]⟩
def stL (n : Int) : Int := if inS n 1 1000000000 = true then n else 0
def stP (n : Int) : Int := if inS n 1 1000000000 = true then 1 else 0
def stE (n : Int) : Int := if inS n 1 1000000000 = true then 0 else 2
def startS (n : Int) : Value := .tuple ⟨[endN (stL n) (stP n), .int .i64 (stE n)]⟩

/-- What may be called: in. -/
def scIn : SCall := fun g args H K => bif Nat.beq g 35 then (match args with | [.int .i64 a, .int .i64 b, .int .i64 c] => K (.bool (inS a b c)) H | _ => False) else False
theorem scIn_ok : SOk Pr scIn := by
  intro g args H K h
  unfold scIn at h
  obtain ⟨hg, h⟩ := bifF h
  have := Nat.eq_of_beq_eq_true hg
  subst this
  split at h
  · exact (in_ok _ _ _ H).mono fun r H' hr => ⟨_, hr.1, by rw [hr.2]; exact h⟩
  · exact h.elim

theorem start_ok (n : Int) (H : IHeap) : ICalls Pr 9 [.int .i64 n] H (fun r H' => r = .ret (startS n) ∧ H' = H) := by
  refine lift0 rfl rfl (icalls_sx (by kernel_rfl) (iwl_last (hs := []) (rf := true) mixed scIn_ok _ (by kernel_rfl) ?_)) H
  refine Eq.mp (α := (Ide.bcase (!(inS n 1 1000000000))
 (IEnd.ret (Value.tuple ⟨[Value.agg ⟨[Value.int IntKind.i64 0, Value.int IntKind.i64 0, Value.int IntKind.i64 0, Value.int IntKind.i64 0, Value.slice none 0 0, Value.int IntKind.i64 0, Value.slice none 0 0]⟩, Value.int IntKind.i64 2]⟩) = IEnd.ret (startS n))
 (IEnd.ret (Value.tuple ⟨[Value.agg ⟨[Value.int IntKind.i64 n, Value.int IntKind.i64 0, Value.int IntKind.i64 1, Value.int IntKind.i64 0, Value.slice none 0 0, Value.int IntKind.i64 0, Value.slice none 0 0]⟩, Value.int IntKind.i64 0]⟩) = IEnd.ret (startS n)))) (by kernel_rfl) ?_
  refine bcI (fun h => ?_) (fun h => ?_) <;> simp_all [startS, endN, stL, stP, stE]

theorem sstart_ok (n : Int) (H : IHeap) : ICalls Pr 11 [.int .i64 n] H (fun r H' => r = .ret (startS n) ∧ H' = H) := by
  refine lift0 rfl rfl (icalls_sx (by kernel_rfl) (iwl_last (hs := []) (rf := true) mixed sc0_ok _ (by kernel_rfl) ?_)) H
  refine Eq.mp (α := (Ide.bcase (decide (n < 1))
 (IEnd.ret (Value.tuple ⟨[Value.agg ⟨[Value.int IntKind.i64 0, Value.int IntKind.i64 0, Value.int IntKind.i64 0, Value.int IntKind.i64 0, Value.slice none 0 0, Value.int IntKind.i64 0, Value.slice none 0 0]⟩, Value.int IntKind.i64 2]⟩) = IEnd.ret (startS n))
 (Ide.bcase (decide (n > 1000000000))
 (IEnd.ret (Value.tuple ⟨[Value.agg ⟨[Value.int IntKind.i64 0, Value.int IntKind.i64 0, Value.int IntKind.i64 0, Value.int IntKind.i64 0, Value.slice none 0 0, Value.int IntKind.i64 0, Value.slice none 0 0]⟩, Value.int IntKind.i64 2]⟩) = IEnd.ret (startS n))
 (IEnd.ret (Value.tuple ⟨[Value.agg ⟨[Value.int IntKind.i64 n, Value.int IntKind.i64 0, Value.int IntKind.i64 1, Value.int IntKind.i64 0, Value.slice none 0 0, Value.int IntKind.i64 0, Value.slice none 0 0]⟩, Value.int IntKind.i64 0]⟩) = IEnd.ret (startS n))))) (by kernel_rfl) ?_
  refine bcI (fun h => ?_) (fun h => bcI (fun h2 => ?_) (fun h2 => ?_)) <;> simp_all [startS, endN, stL, stP, stE, inS] <;> omega

end Go.Proofs.Ytoikiogaiikheaa.Sess

/- wide, outs, ins: loops over the lists of an end. -/
set_option linter.unusedVariables false
set_option linter.unusedSimpArgs false
set_option maxRecDepth 10000
namespace Go.Proofs.Ytoikiogaiikheaa.Sess
open Go Go.RowKit Ide Go.Proofs

def loopOf (cs : List Code) (i : Nat) : Code := match cs[i]? with | some (.block _ (.loop L)) => L | _ => .skip
noncomputable def sp (f : FuncId) : List Code := Ide.spine (bodyOf Pr f) []

def p2 : Value := .pointer (some ⟨2, 0, none⟩)
def wH (e : SE) (a1 a2 : Option Addr) : IHeap := [.cells (outC e.outs) false, .cells (inC e.ins) false, .cells (endW e a1 a2) true]
theorem wH_in (e : SE) (z1 z2 : Bool) : (wH e (adr z1 0) (adr z2 1)).all (inO 3) = true := by
  have h1 := inVs_ground 3 _ (ground_outC e.outs)
  have h2 := inVs_ground 3 _ (ground_inC e.ins)
  show (inV.goL 3 (outC e.outs) && (inV.goL 3 (inC e.ins) && (inV.goL 3 (endW e (adr z1 0) (adr z2 1)) && true))) = true
  rw [h1, h2]
  cases z1 <;> cases z2 <;> rfl

/-! ### wide -/
def longO (n : Nat) (l : List (ByteArray × Bool)) : Bool := l.any fun x => decide (x.1.size > n)
def longI (n : Nat) (l : List (Int × ByteArray)) : Bool := l.any fun x => decide (x.2.size > n)
def wideS (e : SE) : Bool := decide (e.outs.length > 40) || decide (e.ins.length > 40) || longO 60 e.outs || longI 60 e.ins

noncomputable def A7 : List Code := (sp 7).take 4
noncomputable def B7 : List Code := ((sp 7).drop 5).take 1
noncomputable def C7 : List Code := (sp 7).drop 7
noncomputable def L7a : Code := loopOf (sp 7) 4
noncomputable def L7b : Code := loopOf (sp 7) 6
theorem sp7 : Ide.spine (bodyOf Pr 7) [] = A7 ++ .block 0 (.loop L7a) :: (B7 ++ .block 2 (.loop L7b) :: C7) := by kernel_rfl

theorem wide_l1z (e : SE) (Qb : IExit → Env → IHeap → Prop) (ho : e.outs = []) (hx : Qb (.exit 0) [(1, p2), (2, .bool false), (3, .int .i64 0)] (wH e (adr true 0) (adr e.iz 1))) :
    LW none Pr 45 L7a Qb [(1, p2), (2, .bool false), (3, .int .i64 0)] (wH e (adr true 0) (adr e.iz 1)) := by
  refine loop_sx (hs := [27]) (rf := true) mixed sc0_ok [1, 2, 3] (by kernel_rfl) (wH_in e true e.iz) ?_
  obtain ⟨life, peer, phase, base, want, oz, iz, outs, ins⟩ := e
  subst ho
  exact Eq.mp (α := true = true ∧ wH (SE.mk life peer phase base want oz iz [] ins) (adr true 0) (adr iz 1) = wH (SE.mk life peer phase base want oz iz [] ins) (adr true 0) (adr iz 1) ∧ Qb (.exit 0) [(1, p2), (2, .bool false), (3, .int .i64 0)] (wH (SE.mk life peer phase base want oz iz [] ins) (adr true 0) (adr iz 1))) (by kernel_rfl) ⟨rfl, rfl, hx⟩

theorem wide_l1 (e : SE) (Qb : IExit → Env → IHeap → Prop) (hn : e.outs.length ≤ 9223372036854775807) : ∀ (post pre : List (ByteArray × Bool)), e.outs = pre ++ post →
    (longO 60 post = false → Qb (.exit 0) [(1, p2), (2, .bool false), (3, .int .i64 e.outs.length)] (wH e (adr false 0) (adr e.iz 1))) →
    (longO 60 post = true → ∀ i, Qb .ret [(1, p2), (2, .bool true), (3, .int .i64 i)] (wH e (adr false 0) (adr e.iz 1))) →
    LW none Pr 45 L7a Qb [(1, p2), (2, .bool false), (3, .int .i64 (pre.length : Nat))] (wH e (adr false 0) (adr e.iz 1)) := by
  intro post
  induction post with
  | nil =>
    intro pre hp hx hr
    refine loop_sx (hs := [27]) (rf := true) mixed sc0_ok [1, 2, 3] (by kernel_rfl) (wH_in e false e.iz) ?_
    refine Eq.mp (α := (Ide.bcase (decide (((pre.length : Nat) : Int) < ((e.outs.length : Nat) : Int)))
 (0 ≤ ((pre.length : Nat) : Int) ∧ ((pre.length : Nat) : Int) < ((e.outs.length : Nat) : Int) ∧ (∃ s1 : ByteArray, (outC e.outs)[((0 + Int.toNat ((pre.length : Nat) : Int) * 2) + 0)]? = some (Value.string s1) ∧ (Ide.bcase (decide (((ByteArray.size s1 : Nat) : Int) > 60))
 (true = true ∧ (wH e (adr false 0) (adr e.iz 1)) = (wH e (adr false 0) (adr e.iz 1)) ∧ Qb .ret [(1, Value.pointer (some ⟨2, 0, none⟩)), (2, Value.bool true), (3, Value.int IntKind.i64 ((pre.length : Nat) : Int))] (wH e (adr false 0) (adr e.iz 1)))
 (true = true ∧ (wH e (adr false 0) (adr e.iz 1)) = (wH e (adr false 0) (adr e.iz 1)) ∧ LW none Pr 45 L7a Qb [(1, Value.pointer (some ⟨2, 0, none⟩)), (2, Value.bool false), (3, Value.int IntKind.i64 (IntKind.wrap .i64 (((pre.length : Nat) : Int) + 1)))] (wH e (adr false 0) (adr e.iz 1))))))
 (true = true ∧ (wH e (adr false 0) (adr e.iz 1)) = (wH e (adr false 0) (adr e.iz 1)) ∧ Qb (.exit 0) [(1, Value.pointer (some ⟨2, 0, none⟩)), (2, Value.bool false), (3, Value.int IntKind.i64 ((pre.length : Nat) : Int))] (wH e (adr false 0) (adr e.iz 1))))) (by kernel_rfl) ?_
    have hl : pre.length = e.outs.length := by rw [hp]; simp
    refine bcI (fun h => ?_) (fun h => ?_)
    · exfalso; simp at h; omega
    · refine ⟨rfl, rfl, ?_⟩
      rw [hl]
      exact hx rfl
  | cons x post ih =>
    intro pre hp hx hr
    refine loop_sx (hs := [27]) (rf := true) mixed sc0_ok [1, 2, 3] (by kernel_rfl) (wH_in e false e.iz) ?_
    refine Eq.mp (α := (Ide.bcase (decide (((pre.length : Nat) : Int) < ((e.outs.length : Nat) : Int)))
 (0 ≤ ((pre.length : Nat) : Int) ∧ ((pre.length : Nat) : Int) < ((e.outs.length : Nat) : Int) ∧ (∃ s1 : ByteArray, (outC e.outs)[((0 + Int.toNat ((pre.length : Nat) : Int) * 2) + 0)]? = some (Value.string s1) ∧ (Ide.bcase (decide (((ByteArray.size s1 : Nat) : Int) > 60))
 (true = true ∧ (wH e (adr false 0) (adr e.iz 1)) = (wH e (adr false 0) (adr e.iz 1)) ∧ Qb .ret [(1, Value.pointer (some ⟨2, 0, none⟩)), (2, Value.bool true), (3, Value.int IntKind.i64 ((pre.length : Nat) : Int))] (wH e (adr false 0) (adr e.iz 1)))
 (true = true ∧ (wH e (adr false 0) (adr e.iz 1)) = (wH e (adr false 0) (adr e.iz 1)) ∧ LW none Pr 45 L7a Qb [(1, Value.pointer (some ⟨2, 0, none⟩)), (2, Value.bool false), (3, Value.int IntKind.i64 (IntKind.wrap .i64 (((pre.length : Nat) : Int) + 1)))] (wH e (adr false 0) (adr e.iz 1))))))
 (true = true ∧ (wH e (adr false 0) (adr e.iz 1)) = (wH e (adr false 0) (adr e.iz 1)) ∧ Qb (.exit 0) [(1, Value.pointer (some ⟨2, 0, none⟩)), (2, Value.bool false), (3, Value.int IntKind.i64 ((pre.length : Nat) : Int))] (wH e (adr false 0) (adr e.iz 1))))) (by kernel_rfl) ?_
    have hl : e.outs.length = pre.length + post.length + 1 := by rw [hp]; simp; omega
    refine bcI (fun h => ?_) (fun h => ?_)
    · refine ⟨by omega, by omega, x.1, ?_, bcI (fun h2 => ?_) (fun h2 => ?_)⟩
      · rw [hp, show 0 + Int.toNat ((pre.length : Nat) : Int) * 2 + 0 = 2 * pre.length by simp; omega]
        exact (outC_get pre x post).1
      · refine ⟨rfl, rfl, hr ?_ _⟩
        simp only [longO, List.any_cons, Bool.or_eq_true]
        exact .inl (by simp at h2 ⊢; omega)
      · refine ⟨rfl, rfl, ?_⟩
        rw [wrap_i64 (by omega) (by omega), show ((pre.length : Nat) : Int) + 1 = (((pre ++ [x]).length : Nat) : Int) by simp]
        have h3 : decide (x.1.size > 60) = false := by simp at h2 ⊢; omega
        refine ih (pre ++ [x]) (by rw [hp]; simp) (fun h => hx ?_) (fun h i => hr ?_ i)
        · simp only [longO, List.any_cons, h3, Bool.false_or]; exact h
        · simp only [longO, List.any_cons, h3, Bool.false_or]; exact h
    · exfalso; simp at h; omega

theorem wide_l2z (e : SE) (Qb : IExit → Env → IHeap → Prop) (ho : e.ins = []) (hx : Qb (.exit 2) [(1, p2), (2, .bool false), (4, .int .i64 0)] (wH e (adr e.oz 0) (adr true 1))) :
    LW none Pr 45 L7b Qb [(1, p2), (2, .bool false), (4, .int .i64 0)] (wH e (adr e.oz 0) (adr true 1)) := by
  refine loop_sx (hs := [42]) (rf := true) mixed sc0_ok [1, 2, 4] (by kernel_rfl) (wH_in e e.oz true) ?_
  obtain ⟨life, peer, phase, base, want, oz, iz, outs, ins⟩ := e
  subst ho
  exact Eq.mp (α := true = true ∧ wH (SE.mk life peer phase base want oz iz outs []) (adr oz 0) (adr true 1) = wH (SE.mk life peer phase base want oz iz outs []) (adr oz 0) (adr true 1) ∧ Qb (.exit 2) [(1, p2), (2, .bool false), (4, .int .i64 0)] (wH (SE.mk life peer phase base want oz iz outs []) (adr oz 0) (adr true 1))) (by kernel_rfl) ⟨rfl, rfl, hx⟩

theorem wide_l2 (e : SE) (Qb : IExit → Env → IHeap → Prop) (hn : e.ins.length ≤ 9223372036854775807) : ∀ (post pre : List (Int × ByteArray)), e.ins = pre ++ post →
    (longI 60 post = false → Qb (.exit 2) [(1, p2), (2, .bool false), (4, .int .i64 e.ins.length)] (wH e (adr e.oz 0) (adr false 1))) →
    (longI 60 post = true → ∀ i, Qb .ret [(1, p2), (2, .bool true), (4, .int .i64 i)] (wH e (adr e.oz 0) (adr false 1))) →
    LW none Pr 45 L7b Qb [(1, p2), (2, .bool false), (4, .int .i64 (pre.length : Nat))] (wH e (adr e.oz 0) (adr false 1)) := by
  intro post
  induction post with
  | nil =>
    intro pre hp hx hr
    refine loop_sx (hs := [42]) (rf := true) mixed sc0_ok [1, 2, 4] (by kernel_rfl) (wH_in e e.oz false) ?_
    refine Eq.mp (α := (Ide.bcase (decide (((pre.length : Nat) : Int) < ((e.ins.length : Nat) : Int)))
 (0 ≤ ((pre.length : Nat) : Int) ∧ ((pre.length : Nat) : Int) < ((e.ins.length : Nat) : Int) ∧ (∃ s2 : ByteArray, (inC e.ins)[((0 + Int.toNat ((pre.length : Nat) : Int) * 2) + 1)]? = some (Value.string s2) ∧ (Ide.bcase (decide (((ByteArray.size s2 : Nat) : Int) > 60))
 (true = true ∧ (wH e (adr e.oz 0) (adr false 1)) = (wH e (adr e.oz 0) (adr false 1)) ∧ Qb .ret [(1, Value.pointer (some ⟨2, 0, none⟩)), (2, Value.bool true), (4, Value.int IntKind.i64 ((pre.length : Nat) : Int))] (wH e (adr e.oz 0) (adr false 1)))
 (true = true ∧ (wH e (adr e.oz 0) (adr false 1)) = (wH e (adr e.oz 0) (adr false 1)) ∧ LW none Pr 45 L7b Qb [(1, Value.pointer (some ⟨2, 0, none⟩)), (2, Value.bool false), (4, Value.int IntKind.i64 (IntKind.wrap .i64 (((pre.length : Nat) : Int) + 1)))] (wH e (adr e.oz 0) (adr false 1))))))
 (true = true ∧ (wH e (adr e.oz 0) (adr false 1)) = (wH e (adr e.oz 0) (adr false 1)) ∧ Qb (.exit 2) [(1, Value.pointer (some ⟨2, 0, none⟩)), (2, Value.bool false), (4, Value.int IntKind.i64 ((pre.length : Nat) : Int))] (wH e (adr e.oz 0) (adr false 1))))) (by kernel_rfl) ?_
    have hl : pre.length = e.ins.length := by rw [hp]; simp
    refine bcI (fun h => ?_) (fun h => ?_)
    · exfalso; simp at h; omega
    · refine ⟨rfl, rfl, ?_⟩
      rw [hl]
      exact hx rfl
  | cons x post ih =>
    intro pre hp hx hr
    refine loop_sx (hs := [42]) (rf := true) mixed sc0_ok [1, 2, 4] (by kernel_rfl) (wH_in e e.oz false) ?_
    refine Eq.mp (α := (Ide.bcase (decide (((pre.length : Nat) : Int) < ((e.ins.length : Nat) : Int)))
 (0 ≤ ((pre.length : Nat) : Int) ∧ ((pre.length : Nat) : Int) < ((e.ins.length : Nat) : Int) ∧ (∃ s2 : ByteArray, (inC e.ins)[((0 + Int.toNat ((pre.length : Nat) : Int) * 2) + 1)]? = some (Value.string s2) ∧ (Ide.bcase (decide (((ByteArray.size s2 : Nat) : Int) > 60))
 (true = true ∧ (wH e (adr e.oz 0) (adr false 1)) = (wH e (adr e.oz 0) (adr false 1)) ∧ Qb .ret [(1, Value.pointer (some ⟨2, 0, none⟩)), (2, Value.bool true), (4, Value.int IntKind.i64 ((pre.length : Nat) : Int))] (wH e (adr e.oz 0) (adr false 1)))
 (true = true ∧ (wH e (adr e.oz 0) (adr false 1)) = (wH e (adr e.oz 0) (adr false 1)) ∧ LW none Pr 45 L7b Qb [(1, Value.pointer (some ⟨2, 0, none⟩)), (2, Value.bool false), (4, Value.int IntKind.i64 (IntKind.wrap .i64 (((pre.length : Nat) : Int) + 1)))] (wH e (adr e.oz 0) (adr false 1))))))
 (true = true ∧ (wH e (adr e.oz 0) (adr false 1)) = (wH e (adr e.oz 0) (adr false 1)) ∧ Qb (.exit 2) [(1, Value.pointer (some ⟨2, 0, none⟩)), (2, Value.bool false), (4, Value.int IntKind.i64 ((pre.length : Nat) : Int))] (wH e (adr e.oz 0) (adr false 1))))) (by kernel_rfl) ?_
    have hl : e.ins.length = pre.length + post.length + 1 := by rw [hp]; simp; omega
    refine bcI (fun h => ?_) (fun h => ?_)
    · refine ⟨by omega, by omega, x.2, ?_, bcI (fun h2 => ?_) (fun h2 => ?_)⟩
      · rw [hp, show 0 + Int.toNat ((pre.length : Nat) : Int) * 2 + 1 = 2 * pre.length + 1 by simp; omega]
        exact (inC_get pre x post).2
      · refine ⟨rfl, rfl, hr ?_ _⟩
        simp only [longI, List.any_cons, Bool.or_eq_true]
        exact .inl (by simp at h2 ⊢; omega)
      · refine ⟨rfl, rfl, ?_⟩
        rw [wrap_i64 (by omega) (by omega), show ((pre.length : Nat) : Int) + 1 = (((pre ++ [x]).length : Nat) : Int) by simp]
        have h3 : decide (x.2.size > 60) = false := by simp at h2 ⊢; omega
        refine ih (pre ++ [x]) (by rw [hp]; simp) (fun h => hx ?_) (fun h i => hr ?_ i)
        · simp only [longI, List.any_cons, h3, Bool.false_or]; exact h
        · simp only [longI, List.any_cons, h3, Bool.false_or]; exact h
    · exfalso; simp at h; omega

theorem wide_ok {e : SE} (w : Wf e) {H : IHeap} (h0 : H[0]? = some (.cells (outC e.outs) false)) (h1 : H[1]? = some (.cells (inC e.ins) false)) : ICalls Pr 7 [endV e] H (fun r H' => r = .ret (.bool (wideS e)) ∧ H' = H) := by
  refine lift1 rfl (icalls_sx (by kernel_rfl) ?_) h0 h1
  rw [sp7]
  refine iwl_segk (hs := []) (rf := true) mixed sc0_ok [1, 2, 3] A7 _ _ (by kernel_rfl) ?_
  refine Eq.mp (α := (Ide.bcase (decide (((e.outs.length : Nat) : Int) > 40))
 (IEnd.ret (Value.bool true) = .ret (.bool (wideS e)))
 (Ide.bcase (decide (((e.ins.length : Nat) : Int) > 40))
 (IEnd.ret (Value.bool true) = .ret (.bool (wideS e)))
 (IWL none Pr 45 (.block 0 (.loop L7a) :: (B7 ++ .block 2 (.loop L7b) :: C7)) (bodyS Pr (ressOf Pr 7) fun r x => r = .ret (.bool (wideS e))) [(1, Value.pointer (some ⟨2, 0, none⟩)), (2, Value.bool false), (3, Value.int IntKind.i64 0)] (wH e (adr e.oz 0) (adr e.iz 1)))))) (by kernel_rfl) ?_
  have last : ∀ (i : Int), longO 60 e.outs = false → e.outs.length ≤ 40 → e.ins.length ≤ 40 → IWL none Pr 45 (B7 ++ .block 2 (.loop L7b) :: C7) (bodyS Pr (ressOf Pr 7) fun r x => r = .ret (.bool (wideS e))) [(1, p2), (2, .bool false), (3, .int .i64 i)] (wH e (adr e.oz 0) (adr e.iz 1)) := by
    intro i hl h40 h41
    refine iwl_segk (hs := []) (rf := true) mixed sc0_ok [1, 2, 4] B7 _ _ (by kernel_rfl) ?_
    refine Eq.mp (α := IWL none Pr 45 (.block 2 (.loop L7b) :: C7) (bodyS Pr (ressOf Pr 7) fun r x => r = .ret (.bool (wideS e))) [(1, p2), (2, .bool false), (4, .int .i64 0)] (wH e (adr e.oz 0) (adr e.iz 1))) (by kernel_rfl) ?_
    refine iwl_loop ?_
    have fin : ∀ (a : Option Addr) (i : Int), longI 60 e.ins = false → IWL none Pr 45 C7 (bodyS Pr (ressOf Pr 7) fun r x => r = .ret (.bool (wideS e))) [(1, p2), (2, .bool false), (4, .int .i64 i)] (wH e (adr e.oz 0) a) := by
      intro a i hl2
      refine iwl_last (hs := []) (rf := true) mixed sc0_ok C7 (by kernel_rfl) ?_
      refine Eq.mp (α := IEnd.ret (.bool false) = IEnd.ret (.bool (wideS e))) (by kernel_rfl) ?_
      simp [wideS, hl, hl2]
      omega
    have ret : ∀ (a : Option Addr) (i : Int), longI 60 e.ins = true → bodyS Pr (ressOf Pr 7) (fun r x => r = .ret (.bool (wideS e))) .ret [(1, p2), (2, .bool true), (4, .int .i64 i)] (wH e (adr e.oz 0) a) := by
      intro a i hl2
      refine Eq.mp (α := IEnd.ret (.bool true) = IEnd.ret (.bool (wideS e))) (by kernel_rfl) ?_
      simp [wideS, hl2]
    cases hz : e.iz with
    | true =>
      have ho := w.iz hz
      exact wide_l2z e _ ho (fin (adr true 1) _ (by rw [ho]; rfl))
    | false => exact wide_l2 e _ w.inn e.ins [] rfl (fun h => fin (adr false 1) _ h) (fun h i => ret (adr false 1) i h)
  have early : ∀ (x : Bool), wideS e = true → x = true → IEnd.ret (Value.bool x) = IEnd.ret (.bool (wideS e)) := by
    intro x h1 h2; rw [h1, h2]
  refine bcI (fun h => ?_) (fun h => bcI (fun h2 => ?_) (fun h2 => ?_))
  · exact early _ (by simp [wideS] at h ⊢; omega) rfl
  · exact early _ (by simp [wideS] at h2 ⊢; omega) rfl
  · have h40 : e.outs.length ≤ 40 := by simp at h; omega
    have h41 : e.ins.length ≤ 40 := by simp at h2; omega
    refine iwl_loop ?_
    cases hz : e.oz with
    | true =>
      have ho := w.oz hz
      refine wide_l1z e _ ho ?_
      have := last 0 (by rw [ho]; rfl) h40 h41
      rw [hz] at this
      exact this
    | false =>
      refine wide_l1 e _ w.on e.outs [] rfl (fun h => ?_) (fun h i => ?_)
      · have := last e.outs.length h h40 h41
        rw [hz] at this
        exact this
      · refine Eq.mp (α := IEnd.ret (.bool true) = IEnd.ret (.bool (wideS e))) (by kernel_rfl) ?_
        simp [wideS, h]

end Go.Proofs.Ytoikiogaiikheaa.Sess
