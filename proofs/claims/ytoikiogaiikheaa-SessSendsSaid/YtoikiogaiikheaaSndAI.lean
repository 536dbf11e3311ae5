/- Ranges over functions, rounds, functions. -/
import Derived.Test.YtoikiogaiikheaaSndAH
set_option linter.unusedSectionVars false
set_option linter.unusedVariables false
set_option linter.unusedSimpArgs false
namespace Ide
open Go Go.RowKit
variable [Pol]

theorem IW.mono {ro : Option Nat} {P : Program} {nt : Nat} {c : Code} {Q Q' : IExit → Env → IHeap → Prop} {env : Env} {H : IHeap} (h : IW ro P nt c Q env H) (hq : ∀ e env H, Q e env H → Q' e env H) : IW ro P nt c Q' env H := by
  intro n0 β w a S hT hM
  refine wpIn_mono (h n0 β w a S hT hM) fun e a' w' h => ?_
  cases e with
  | normal => obtain ⟨β', H', env', St, S', hT', hM', hn⟩ := h; exact ⟨β', H', env', St, S', hT', hM', hq _ _ _ hn⟩
  | exit id => obtain ⟨β', H', env', St, S', hT', hM', hn⟩ := h; exact ⟨β', H', env', St, S', hT', hM', hq _ _ _ hn⟩
  | ret => obtain ⟨β', H', env', St, S', hT', hM', hn⟩ := h; exact ⟨β', H', env', St, S', hT', hM', hq _ _ _ hn⟩
  | panic ch => obtain ⟨β', H', env', v, v', St, S', hch, hv, hM', hsz, hn⟩ := h; exact ⟨β', H', env', v, v', St, S', hch, hv, hM', hsz, hq _ _ _ hn⟩
  | goto t => exact h
  | outgrown => exact h

/-- Less is known. -/
theorem IW.weaken {ro : Option Nat} {P : Program} {nt : Nat} {c : Code} {Q : IExit → Env → IHeap → Prop} {env env' : Env} {H : IHeap} (h : IW ro P nt c Q env' H) (hw : ∀ t, lk env' t = lk env t ∨ lk env' t = anyV) : IW ro P nt c Q env H := by
  intro n0 β w a S hT hM
  exact h n0 β w a S ⟨hT.1, fun t ht => by rcases hw t with e | e <;> rw [e] <;> first | exact hT.2 t ht | exact .any _⟩ hM

theorem Sim.pushed {β : Emb} {H : IHeap} {w : World} (S : Sim β H w) (x : Obj) : Step β w β { w with heap := w.heap.push x } ∧ Sim β H { w with heap := w.heap.push x } := by
  refine ⟨⟨Emb.le.refl _, by simp, fun id l h => .inl ⟨id, l, h, rfl⟩, fun k hk _ => heap_push_lt w x k hk⟩, ?_⟩
  exact {
    below := S.below.trans (below_push w x _ S.base_le)
    dom := S.dom
    held := S.held
    blk := fun id l h => by have := S.blk id l h; simp; omega
    obj := fun id l o h1 h2 => (S.obj id l o h1 h2).keep fun _ => heap_push_lt w x _ (S.blk id l h1)
    inj := S.inj }

section
variable {P : Program} {nt : Nat}

theorem fz_round (b : Nat) : Fence.wide.inRound b = Fz (some b) := rfl

/-- The loop's record, in the machine. -/
theorem loop_obj {β : Emb} {H : IHeap} {w : World} (S : Sim β H w) {i : Nat} {l : Loc} {st : LoopState} {pend : Option Code} {fn : FuncId} {tm : Env} {nt : Nat} {ps : Array Tmp} {as bd : Code} (hl : β.loc i = some l) (hH : H[i]? = some (.loop st pend fn tm nt ps as bd)) :
    ∃ tm' df fn', TRel β.loc nt tm tm' ∧ β.w0.heap.size ≤ l.block ∧ w.heap[l.block]? = some (.loop { state := st, pending := pend, fn := fn', tmps := tm', params := ps, assign := as, body := bd, defers := df }) := by
  obtain ⟨h1, tm', df, fn', h2, h3⟩ := S.obj i l _ hl hH
  exact ⟨tm', df, fn', h2, h1, h3⟩

theorem loop_set {β : Emb} {H : IHeap} {w : World} (S : Sim β H w) {i : Nat} {l : Loc} {st st' : LoopState} {pend pend' : Option Code} {fn fn' : FuncId} {tm : Env} {nt : Nat} {ps : Array Tmp} {as bd : Code} (hl : β.loc i = some l) (hH : H[i]? = some (.loop st pend fn tm nt ps as bd))
    {tm' : Array Value} {df : Nat} (hT : TRel β.loc nt tm tm') (hw : w.heap[l.block]? = some (.loop { state := st, pending := pend, fn := fn', tmps := tm', params := ps, assign := as, body := bd, defers := df })) :
    Step β w β { w with heap := w.heap.setIfInBounds l.block (.loop { state := st', pending := pend', fn := fn', tmps := tm', params := ps, assign := as, body := bd, defers := df }) } ∧
    Sim β (H.set i (.loop st' pend' fn tm nt ps as bd)) { w with heap := w.heap.setIfInBounds l.block (.loop { state := st', pending := pend', fn := fn', tmps := tm', params := ps, assign := as, body := bd, defers := df }) } :=
  S.setObj hl hH rfl hw fun W hW => ⟨(S.obj i l _ hl hH).1, tm', df, fn', hT, hW⟩

/-- What a round comes to behind its body. -/
def roundEnd (l : Nat) (R : IEnd → IHeap → Prop) (e : IExit) (env : Env) (H' : IHeap) : Prop :=
  ∃ st' p' fn tm nt' params as_ bd, H'[l]? = some (.loop st' p' fn tm nt' params as_ bd) ∧
    match e with
    | .normal => R (.ret (.bool true)) (H'.set l (.loop .ready none fn tm nt' params as_ bd))
    | .ret => R (.ret (.bool false)) (H'.set l (.loop .done (some .ret) fn tm nt' params as_ bd))
    | .exit id => R (.ret (.bool false)) (H'.set l (.loop .done (some (.exit id)) fn tm nt' params as_ bd))
    | .panic _ => False

/-- A round, of what its parts do. -/
theorem iround_of {l : Nat} {fn : FuncId} {env : Env} {assign body : Code} {H : IHeap} {R : IEnd → IHeap → Prop}
    (h : ∀ ro : Nat, IW (some ro) P nt assign (fun e env H => match e with
      | .normal => ∃ fn tm nt' params as_ bd, H[l]? = some (.loop .ready none fn tm nt' params as_ bd) ∧
        IW (some ro) P nt body (roundEnd l R) env (H.set l (.loop .busy none fn tm nt' params as_ bd))
      | _ => False) env H) : IRound P l fn env nt assign body H R := by
  intro β w tmps ll S hl hT
  refine roundIn_of_wpIn trivial ?_
  rw [fz_round]
  have h1 := h ll.block 0 β w { tmps := tmps, defers := [] } S hT ⟨Nat.zero_le _, trivial⟩
  refine wpIn_mono h1 fun e a₁ w₁ hq => ?_
  cases e with
  | normal =>
    obtain ⟨β₁, H₁, env₁, St₁, S₁, hT₁, hM₁, f₁, tm, nt', ps, as, bd, hH, hbody⟩ := hq
    have hl₁ := St₁.le.2 _ _ hl
    obtain ⟨tm', df, f', hTl, _, hw⟩ := loop_obj S₁ hl₁ hH
    obtain ⟨St₂, S₂⟩ := loop_set (st' := .busy) (pend' := none) S₁ hl₁ hH hTl hw
    refine ⟨{ w₁ with heap := w₁.heap.setIfInBounds ll.block (.loop { state := .busy, pending := none, fn := f', tmps := tm', params := ps, assign := as, body := bd, defers := df }) }, ?_, ?_⟩
    · unfold Instr.beginRound Instr.getLoop
      simp only [Sem.run_bind, run_getObj hw trivial, Result.andThen_ok, Sem.run_pure, run_setObj hw trivial]
    · have h2 := hbody 0 β₁ _ a₁ S₂ hT₁ (hM₁.step St₂)
      refine wpIn_mono h2 fun e a₃ w₃ hq => ?_
      have fin : ∀ (jump : Option Code) (β₃ : Emb) (H₃ : IHeap) (st' : LoopState) (p' : Option Code) (f₃ : FuncId) (tm₃ : Env) (nt₃ : Nat) (ps₃ : Array Tmp) (as₃ bd₃ : Code), Step β₁ { w₁ with heap := w₁.heap.setIfInBounds ll.block (.loop { state := .busy, pending := none, fn := f', tmps := tm', params := ps, assign := as, body := bd, defers := df }) } β₃ w₃ → Sim β₃ H₃ w₃ →
          H₃[l]? = some (.loop st' p' f₃ tm₃ nt₃ ps₃ as₃ bd₃) →
          R (.ret (.bool jump.isNone)) (H₃.set l (.loop (if jump.isNone then .ready else .done) jump f₃ tm₃ nt₃ ps₃ as₃ bd₃)) → ∃ v w', (Instr.endRound ll.block jump).run P w₃ = .ok v w' ∧ After β w R (.returned v) w' := by
        intro jump β₃ H₃ st' p' f₃ tm₃ nt₃ ps₃ as₃ bd₃ St₃ S₃ hH₃ hR
        have hl₃ := St₃.le.2 _ _ hl₁
        obtain ⟨tm'₃, df₃, f₃', hTl₃, _, hw₃⟩ := loop_obj S₃ hl₃ hH₃
        obtain ⟨St₄, S₄⟩ := loop_set (st' := if jump.isNone then .ready else .done) (pend' := jump) S₃ hl₃ hH₃ hTl₃ hw₃
        refine ⟨.bool jump.isNone, _, ?_, β₃, _, ((St₁.trans St₂).trans St₃).trans St₄, S₄, .bool jump.isNone, .bool _, hR⟩
        unfold Instr.endRound Instr.getLoop
        simp only [Sem.run_bind, run_getObj hw₃ trivial, Result.andThen_ok, Sem.run_pure, run_setObj hw₃ trivial]
      cases e with
      | normal =>
        obtain ⟨β₃, H₃, env₃, St₃, S₃, hT₃, hM₃, st', p', f₃, tm₃, nt₃, ps₃, as₃, bd₃, hH₃, hR⟩ := hq
        exact fin none β₃ H₃ st' p' f₃ tm₃ nt₃ ps₃ as₃ bd₃ St₃ S₃ hH₃ hR
      | ret =>
        obtain ⟨β₃, H₃, env₃, St₃, S₃, hT₃, hM₃, st', p', f₃, tm₃, nt₃, ps₃, as₃, bd₃, hH₃, hR⟩ := hq
        exact fin (some .ret) β₃ H₃ st' p' f₃ tm₃ nt₃ ps₃ as₃ bd₃ St₃ S₃ hH₃ hR
      | exit id =>
        obtain ⟨β₃, H₃, env₃, St₃, S₃, hT₃, hM₃, st', p', f₃, tm₃, nt₃, ps₃, as₃, bd₃, hH₃, hR⟩ := hq
        exact fin (some (.exit id)) β₃ H₃ st' p' f₃ tm₃ nt₃ ps₃ as₃ bd₃ St₃ S₃ hH₃ hR
      | panic ch =>
        obtain ⟨β₃, H₃, env₃, v, v', St₃, S₃, hch, hv, hM₃, hsz, st', p', f₃, tm₃, nt₃, ps₃, as₃, bd₃, hH₃, hR⟩ := hq
        exact hR.elim
      | goto t => exact hq.elim
      | outgrown => exact hq.elim
  | exit id => obtain ⟨β', H', env', _, _, _, _, hf⟩ := hq; exact hf.elim
  | ret => obtain ⟨β', H', env', _, _, _, _, hf⟩ := hq; exact hf.elim
  | panic ch => obtain ⟨β', H', env', v, v', _, _, _, _, _, _, hf⟩ := hq; exact hf.elim
  | goto t => exact hq.elim
  | outgrown => exact hq.elim

/-- A round. -/
theorem iround_sound (hm : P.follows .mixedOrders = true) {l : Nat} {fn : FuncId} {env : Env} {assign body : Code} {H : IHeap} {R : IEnd → IHeap → Prop} (ha : codeOk P nt false assign = true) (hb : codeOk P nt false body = true)
    (h : iround P l nt assign body env H R) : IRound P l fn env nt assign body H R := by
  refine iround_of fun ro => ?_
  refine (iwp_sound_plain (ro := some ro) hm ha h).mono fun e env H hq => ?_
  cases e with
  | normal =>
    obtain ⟨f₁, tm, nt', ps, as, bd, hH, hbody⟩ := hq
    exact ⟨f₁, tm, nt', ps, as, bd, hH, (iwp_sound_plain (ro := some ro) hm hb hbody).weaken fun t => lk_keep _ env t⟩
  | exit id => exact hq
  | ret => exact hq
  | panic v => exact hq

/-- A range over a function, of what the call does. tm: what is known in the rounds. -/
theorem range_of {g : Operand} {ps : Array Tmp} {assign body : Code} {Q : IExit → Env → IHeap → Prop} {env tm : Env} {H : IHeap} {gf : FuncId} {first cap : List Value} (hok : okOpd nt g = true) (hg : iev env g = .func (.func gf) ⟨first⟩ ⟨cap⟩)
    (htm : ∀ t, lk tm t = lk env t ∨ lk tm t = anyV)
    (h : ICalls P gf (first ++ [.func (.yield (Pol.pos H)) #[] #[]] ++ cap) (newO H (.loop .ready none 0 tm nt ps assign body))
        (fun e H' => match e with
          | .ret _ => rangeEnd (Pol.pos H) H' fun x H'' => Q x env H''
          | .panic v => Q (.panic v) [] H')) : IW none P nt (.rangeFunc g ps assign body) Q env H := by
  intro n0 β w a S hT hM
  have hgr := iev_rel (a := a) hT hok
  rw [hg] at hgr
  have hTm : TRel β.loc nt tm a.tmps := ⟨hT.1, fun t ht => by rcases htm t with e | e <;> rw [e] <;> first | exact hT.2 t ht | exact .any _⟩
  generalize hz : a.eval g = z at hgr
  cases hgr with
  | @func _ _ b _ d h1 h2 =>
    refine wpIn_rangeFunc fun fn _ => ?_
    obtain ⟨St0, S0⟩ := S.pushed (.deferred (some []))
    let w0' : World := { w with heap := w.heap.push (.deferred (some [])) }
    have hsz0 : w0'.heap.size = w.heap.size + 1 := by simp [w0']
    have S0' := S0.ghost (.loop .ready none 0 tm nt ps assign body)
    obtain ⟨St1, S1⟩ := S0'.make (id := Pol.pos H) (o := .loop .ready none 0 tm nt ps assign body) (newO_self _ _) S.unplaced
      (.loop { state := .ready, pending := none, fn := fn, tmps := a.tmps, params := ps, assign := assign, body := body, defers := w.heap.size }) ⟨w0'.heap.size, 0, 0, true⟩ rfl
      ⟨S0.base_le, a.tmps, w.heap.size, fn, hTm.mono (Emb.with_le _ S.unplaced.1).2, heap_push_self w0' _⟩
    let w1 : World := { w0' with heap := w0'.heap.push (.loop { state := .ready, pending := none, fn := fn, tmps := a.tmps, params := ps, assign := assign, body := body, defers := w.heap.size }) }
    have hl1 : (β.with (Pol.pos H) ⟨w0'.heap.size, 0, 0, true⟩).loc (Pol.pos H) = some ⟨w0'.heap.size, 0, 0, true⟩ := Emb.with_self _ _ _
    have hle : β.le (β.with (Pol.pos H) ⟨w0'.heap.size, 0, 0, true⟩) := Emb.with_le _ S.unplaced.1
    have hcall := h
    have hmk : Mk n0 (β.with (Pol.pos H) ⟨w0'.heap.size, 0, 0, true⟩) w1 ([({ target := .collected w.heap.size, args := #[] } : Deferred)] ++ a.defers) := by
      refine ⟨Nat.le_trans hM.1 (St0.trans St1).size, ⟨w.heap.size, rfl, ⟨?_, fun id l hl => ?_, hM.1⟩, ?_⟩, hM.2.step (St0.trans St1)⟩
      · show (w0'.heap.push _)[w.heap.size]? = _
        rw [Array.getElem?_push, if_neg (by omega)]
        exact heap_push_self w _
      · by_cases e : id = Pol.pos H
        · subst e; rw [hl1] at hl; cases hl; show w0'.heap.size ≠ w.heap.size; omega
        · have : β.loc id = some l := by simpa [Emb.with, e] using hl
          have := S.blk id l this
          omega
      · have key : ∀ ds : List Deferred, MkL n0 β w ds → ∀ d' ∈ ds, d'.target ≠ .collected w.heap.size := by
          intro ds
          induction ds with
          | nil => intro _ d' hd; cases hd
          | cons x ds ih =>
            rintro ⟨⟨r, h1, h2, h3⟩, h4⟩ d' hd
            rcases List.mem_cons.1 hd with rfl | hd
            · rw [h1]
              intro e
              have : r = w.heap.size := by injection e
              have hlt := (Array.getElem?_eq_some_iff.1 h2.1).1
              omega
            · exact ih h4 d' hd
        exact key a.defers hM.2
    refine ⟨w0'.heap.size, [{ target := .collected w.heap.size, args := #[] }], w1, { target := .fn (.func gf) ⟨d⟩, args := ⟨b⟩ ++ #[Value.func (.yield w0'.heap.size) #[] #[]] }, w1, gf, ⟨b⟩ ++ #[Value.func (.yield w0'.heap.size) #[] #[]] ++ ⟨d⟩, w1, ?_, ?_, ?_, ?_, ?_, ?_⟩
    · unfold Instr.enterLoop
      simp only [Fz]
      rfl
    · unfold resolve rangeCall
      simp only [hz]
      simp [Deferred.ofValue, Act.eval]
    · exact fun _ _ => trivial
    · show (callFunc gf _).run P w1 = _
      exact run_callFunc hcall.1
    · exact fun hd => by cases hd
    · have hargs : VsRel (β.with (Pol.pos H) ⟨w0'.heap.size, 0, 0, true⟩).loc (first ++ [Value.func (.yield (Pol.pos H)) #[] #[]] ++ cap) ((⟨b⟩ : Array Value) ++ #[Value.func (.yield w0'.heap.size) #[] #[]] ++ ⟨d⟩).toList := by
        have e : ((⟨b⟩ : Array Value) ++ #[Value.func (.yield w0'.heap.size) #[] #[]] ++ ⟨d⟩).toList = b ++ [Value.func (.yield w0'.heap.size) #[] #[]] ++ d := by simp
        rw [e]
        exact ((VsRel.mono hle.2 h1).append (.cons (.yield hl1) .nil)).append (VsRel.mono hle.2 h2)
      refine (hcall.2 _ w1 _ S1 hargs).mono fun e w3 hA => ?_
      obtain ⟨β3, H3, St3, S3, hE⟩ := hA
      have Stall := (St0.trans St1).trans St3
      cases e with
      | returned v' =>
        obtain ⟨v, hv, st, pend, f3, tm3, nt3, ps3, as3, bd3, hH3, hst, hmatch⟩ := hE
        have hl3 := St3.le.2 _ _ hl1
        obtain ⟨tm', df, f3', hTl, _, hw3⟩ := loop_obj S3 hl3 hH3
        obtain ⟨St4, S4⟩ := loop_set (st' := .exhausted) (pend' := pend) S3 hl3 hH3 hTl hw3
        refine ⟨pend, { w3 with heap := w3.heap.setIfInBounds w0'.heap.size (.loop { state := .exhausted, pending := pend, fn := f3', tmps := tm', params := ps3, assign := as3, body := bd3, defers := df }) }, ?_, ?_⟩
        · unfold Instr.endLoop Instr.getLoop
          have hst' : (st == LoopState.busy) = false := by cases st <;> first | rfl | exact (hst rfl).elim
          simp only [Sem.run_bind, run_getObj hw3 trivial, Result.andThen_ok, Sem.run_pure, hst']
          rw [if_neg (by simp)]
          simp only [Sem.run_bind, run_setObj (r := w0'.heap.size) hw3 trivial, Result.andThen_ok, Sem.run_pure]
        · have hT4 : TRel β3.loc nt env a.tmps := hT.mono Stall.le.2
          have hM4 := (hmk.step St3).step St4
          split at hmatch
          · exact ⟨β3, _, env, Stall.trans St4, S4, hT4, hM4, hmatch⟩
          · exact wpIn_ret ⟨β3, _, env, Stall.trans St4, S4, hT4, hM4, hmatch⟩
          · exact wpIn_exit ⟨β3, _, env, Stall.trans St4, S4, hT4, hM4, hmatch⟩
          · exact hmatch.elim
      | panicked chain =>
        obtain ⟨v, v', hch, hv, hR⟩ := hE
        exact ⟨β3, H3, [], v, v', Stall, S3, hch, hv, hmk.step St3, hT.1, hR⟩
      | outgrown => exact hE.elim

theorem range_sound {g : Operand} {ps : Array Tmp} {assign body : Code} {lo : List Nat} {Q : IExit → Env → IHeap → Prop} {env : Env} {H : IHeap} (hok : codeOk P nt true (.rangeFunc g ps assign body) = true)
    (h : iwp P nt (.rangeFunc g ps assign body) lo Q env H) : IW none P nt (.rangeFunc g ps assign body) Q env H := by
  simp only [codeOk, Bool.and_eq_true] at hok
  simp only [iwp] at h
  split at h
  · rename_i gf first cap hg
    exact range_of hok.1.1.1.2 hg (fun t => lk_keep _ env t) h
  · exact h.elim

/-- Code of a function. -/
theorem iwp_sound (hm : P.follows .mixedOrders = true) {c : Code} {lo : List Nat} {Q : IExit → Env → IHeap → Prop} {env : Env} {H : IHeap} (hok : codeOk P nt true c = true) (h : iwp P nt c lo Q env H) : IW none P nt c Q env H :=
  iwp_sound_at hm true (fun g ps assign body lo Q env H hok h => range_sound hok h) c lo Q env H hok h

/-! ### functions -/
/-- What a function hands back. -/
def resGo (P : Program) : List ResultVar → Env → IHeap → List Value → (List Value → Prop) → Prop
  | [], _, _, acc, K => K acc
  | .tmp t :: r, env, H, acc, K => resGo P r env H (acc ++ [lk env t]) K
  | .cell a t :: r, env, H, acc, K => ptrAt (lk env a) fun i o => load P t H i o fun v => resGo P r env H (acc ++ [v]) K

def oneV (vs : List Value) : Value :=
  match vs with
  | [v] => v
  | vs => .tuple ⟨vs⟩

def resV (P : Program) (rs : List ResultVar) (env : Env) (H : IHeap) (K : Value → Prop) : Prop := resGo P rs env H [] fun vs => K (oneV vs)

def okRes (nt : Nat) : ResultVar → Bool
  | .tmp t => Nat.blt t nt
  | .cell a _ => Nat.blt a nt

def resOf (tm : Array Value) (r : ResultVar) : Sem Value :=
  match r with
  | .tmp t => pure (tm.getD t undef)
  | .cell a t => do loadVar t (← asAddr (tm.getD a undef))

theorem results_eq (fn : Func) (tm : Array Value) : results fn tm = (do let vs ← fn.results.mapM (resOf tm); pure (if h : vs.size = 1 then vs[0] else .tuple vs) : Sem Value) := by
  unfold results
  have : (fun | .tmp t => pure (tm.getD t undef) | .cell a t => do loadVar t (← asAddr (tm.getD a undef)) : ResultVar → Sem Value) = resOf tm := by
    funext x
    cases x <;> rfl
  rw [← this]
  rfl

theorem resGo_sound {β : Emb} {H : IHeap} {w : World} (S : Sim β H w) {env : Env} {tm : Array Value} (hT : TRel β.loc nt env tm) :
    ∀ (rs : List ResultVar) (acc acc' : List Value) (K : List Value → Prop), rs.all (okRes nt) = true → VsRel β.loc acc acc' → resGo P rs env H acc K →
      ∃ vs', (rs.mapM (resOf tm)).run P w = .ok vs' w ∧ ∃ us, VsRel β.loc us (acc' ++ vs') ∧ K us
  | [], acc, acc', K, _, hr, h => ⟨[], rfl, acc, by simpa using hr, h⟩
  | .tmp t :: rs, acc, acc', K, hok, hr, h => by
    have hok' : Nat.blt t nt = true ∧ rs.all (okRes nt) = true := by simpa [okRes] using hok
    have hv := hT.2 t (by simpa [Nat.blt_eq] using hok'.1)
    obtain ⟨vs', h1, us, h3, h4⟩ := resGo_sound S hT rs (acc ++ [lk env t]) (acc' ++ [tm.getD t undef]) K hok'.2 (hr.append (.cons hv .nil)) h
    refine ⟨tm.getD t undef :: vs', ?_, us, by simpa using h3, h4⟩
    rw [List.mapM_cons]
    simp only [resOf, Sem.run_bind, Sem.run_pure, Result.andThen_ok]
    rw [show (rs.mapM fun r => resOf tm r) = rs.mapM (resOf tm) from rfl, h1]
    rfl
  | .cell a t :: rs, acc, acc', K, hok, hr, h => by
    have hok' : Nat.blt a nt = true ∧ rs.all (okRes nt) = true := by simpa [okRes] using hok
    have ha := hT.2 a (by simpa [Nat.blt_eq] using hok'.1)
    simp only [resGo] at h
    unfold ptrAt at h
    split at h
    · rename_i p hp
      obtain ⟨i, o, rfl, hk⟩ := pcase_sound h
      rw [hp] at ha
      obtain ⟨_, l, hl, hx⟩ := ha.inv_ptr
      obtain ⟨v, v', g1, g2, g3, _⟩ := load_sound S hl hk
      obtain ⟨vs', h1, us, h3, h4⟩ := resGo_sound S hT rs (acc ++ [v]) (acc' ++ [v']) K hok'.2 (hr.append (.cons g2 .nil)) g3
      refine ⟨v' :: vs', ?_, us, by simpa using h3, h4⟩
      rw [List.mapM_cons]
      have e : (resOf tm (.cell a t)).run P w = .ok v' w := by
        simp only [resOf, hx, asAddr, Sem.run_bind, Sem.run_pure, Result.andThen_ok, g1]
      simp only [Sem.run_bind, e, Result.andThen_ok]
      rw [h1]
      rfl
    · exact h.elim

theorem resV_sound {β : Emb} {H : IHeap} {w : World} (S : Sim β H w) {env : Env} {fn : Func} {tm : Array Value} (hT : TRel β.loc nt env tm) {K : Value → Prop} (hok : fn.results.toList.all (okRes nt) = true) (h : resV P fn.results.toList env H K) :
    ∃ v v', (results fn tm).run P w = .ok v' w ∧ VRel β.loc v v' ∧ K v := by
  obtain ⟨vs', h1, us, h3, h4⟩ := resGo_sound S hT fn.results.toList [] [] _ hok .nil h
  rw [results_eq]
  have e : (fn.results.mapM (resOf tm)).run P w = .ok ⟨vs'⟩ w := by
    rw [Array.mapM_eq_mapM_toList]
    simp only [Sem.run_map, h1, Result.andThen_ok]
  simp only [Sem.run_bind, e, Result.andThen_ok, Sem.run_pure]
  have h3' : VsRel β.loc us vs' := by simpa using h3
  refine ⟨_, _, rfl, ?_, h4⟩
  have hlen := h3'.length
  cases h3' with
  | nil => simp [oneV]; exact .tuple .nil
  | cons hv ht =>
    cases ht with
    | nil => simpa [oneV] using hv
    | cons hv2 ht2 => simp only [oneV]; simp; exact .tuple (.cons hv (.cons hv2 ht2))

/-- The environment at the head of a function. -/
def envOf : Nat → List Value → Env
  | _, [] => []
  | i, v :: vs => (i, v) :: envOf (i + 1) vs

theorem lk_envOf : ∀ (vs : List Value) (i t : Nat), lk (envOf i vs) t = if i ≤ t then (vs[t - i]?).getD anyV else anyV
  | [], i, t => by simp [envOf, lk]
  | v :: vs, i, t => by
    simp only [envOf, lk]
    by_cases e : i = t
    · subst e; simp
    · rw [beq_false e, cond_false, lk_envOf vs (i + 1) t]
      by_cases h : i + 1 ≤ t
      · rw [if_pos h, if_pos (by omega), show t - i = (t - (i + 1)) + 1 by omega]; simp
      · rw [if_neg h, if_neg (by omega)]

/-- Ways a function ends. -/
def bodyQ (P : Program) (rs : List ResultVar) (R : IEnd → IHeap → Prop) : IExit → Env → IHeap → Prop
  | .normal, env, H => resV P rs env H fun v => R (.ret v) H
  | .ret, env, H => resV P rs env H fun v => R (.ret v) H
  | .panic v, _, H => R (.panic v) H
  | .exit _, _, _ => False

/-- A function whose text is fit. -/
def funcOk (P : Program) (f : FuncId) (fn : Func) (c : Code) (n : Nat) : Prop :=
  P.funcs[f]? = some fn ∧ fn.body = some c ∧ (fn.name == "runtime.NumGoroutine") = false ∧ codeOk P fn.ntmps true c = true ∧ fn.results.toList.all (okRes fn.ntmps) = true ∧ n ≤ fn.ntmps

theorem MkAt.empty {n0 : Nat} {β : Emb} {w : World} {r : Nat} (h : MkAt n0 β w r) : (Instr.takeDeferred r).run P w = .ok [] { w with heap := w.heap.setIfInBounds r (.deferred none) } := by
  unfold Instr.takeDeferred
  simp only [Sem.run_bind, run_getObj h.1 trivial, Result.andThen_ok, run_setObj h.1 trivial, Sem.run_pure]

/-- Marks go at a function's end. -/
theorem leaves_sound {fn : Func} {tm : Array Value} {R : Ending → World → Prop} {u : FrameMode} (hu : u ≠ .run) {β0 : Emb} {w0 : World} (h0 : β0.w0.heap.size ≤ w0.heap.size) : ∀ (ds : List Deferred) (β : Emb) (H : IHeap) (w : World), Step β0 w0 β w → Sim β H w → MkL w0.heap.size β w ds →
    (∀ w', Step β0 w0 β w' → Sim β H w' → LeavesIn Fence.wide 0 P fn tm R [] u w') → LeavesInM Fence.wide 0 P fn tm R ds u w
  | [], β, H, w, St, S, _, h => h w St S
  | d :: ds, β, H, w, St, S, ⟨⟨r, h1, h2, h3⟩, h4⟩, h => by
    have hother : ∀ k, k ≠ r → ({ w with heap := w.heap.setIfInBounds r (.deferred none) } : World).heap[k]? = w.heap[k]? := fun k hk => heap_set_other hk
    have St' : Step β0 w0 β { w with heap := w.heap.setIfInBounds r (.deferred none) } := {
      le := St.le
      size := by have := St.size; simpa using this
      newb := St.newb
      frame := fun k hk hn => by
        have := h2.2.2
        rw [hother k (by omega)]
        exact St.frame k hk hn }
    have S' : Sim β H { w with heap := w.heap.setIfInBounds r (.deferred none) } := {
      below := S.below.trans ⟨rfl, rfl, rfl, by simp, fun k hk => hother k (by
        have := h2.2.2
        have e : β.w0 = β0.w0 := St.le.1.1
        rw [e] at hk
        omega)⟩
      dom := S.dom
      held := S.held
      blk := fun id l hl => by have := S.blk id l hl; simpa using this
      obj := fun id l o hl ho => (S.obj id l o hl ho).keep fun _ => hother _ (h2.2.1 id l hl)
      inj := S.inj }
    refine ⟨hu, .inl ⟨r, _, h1, h2.empty, leaves_sound hu h0 ds β H _ St' S' ?_ h⟩⟩
    have key : ∀ ds : List Deferred, (∀ d' ∈ ds, d'.target ≠ .collected r) → MkL w0.heap.size β w ds → MkL w0.heap.size β { w with heap := w.heap.setIfInBounds r (.deferred none) } ds := by
      intro ds
      induction ds with
      | nil => intro _ _; trivial
      | cons x ds ih =>
        rintro hne ⟨⟨r', g1, g2, g3⟩, g4⟩
        refine ⟨⟨r', g1, ⟨?_, g2.2⟩, g3⟩, ih (fun d' hd => hne d' (by simp [hd])) g4⟩
        rw [hother r' (fun e => hne x (by simp) (by rw [g1, e]))]
        exact g2.1
    exact key ds h3 h4

/-- A function's contract, from the ideal meaning of its text. -/
theorem icalls_of_iw {f : FuncId} {fn : Func} {c : Code} {args : List Value} {H : IHeap} {R : IEnd → IHeap → Prop} (hf : funcOk P f fn c args.length)
    (h : IW none P fn.ntmps c (bodyQ P fn.results.toList R) (envOf 0 args) H) : ICalls P f args H R := by
  obtain ⟨h1, h2, h3, h4, h5, h6⟩ := hf
  refine ⟨by simp [callable, h1, h2, h3], fun β w args' S hargs => ?_⟩
  refine callsIn_of_wp_marks h1 h2 trivial ?_
  have hlen : args'.size = args.length := by have := hargs.length; simpa using this
  have hT : TRel β.loc fn.ntmps (envOf 0 args) (args' ++ Array.replicate (fn.ntmps - args'.size) undef) := by
    refine ⟨by simp [hlen]; omega, fun t ht => ?_⟩
    rw [lk_envOf, if_pos (Nat.zero_le _), Nat.sub_zero, Array.getD_eq_getD_getElem?]
    by_cases hlt : t < args.length
    · obtain ⟨v', g1, g2⟩ := hargs.get (List.getElem?_eq_getElem hlt)
      rw [List.getElem?_eq_getElem hlt, Array.getElem?_append_left (by omega), ← Array.getElem?_toList, g1]
      exact g2
    · rw [List.getElem?_eq_none (by omega)]
      exact .any _
  have hiw := h w.heap.size β w { tmps := args' ++ Array.replicate (fn.ntmps - args'.size) undef, defers := [] } S hT ⟨Nat.le_refl _, trivial⟩
  refine wpIn_mono hiw fun e a' w' hq => ?_
  have fin : ∀ (β' : Emb) (H' : IHeap) (env' : Env), Step β w β' w' → Sim β' H' w' → TRel β'.loc fn.ntmps env' a'.tmps → Mk w.heap.size β' w' a'.defers → resV P fn.results.toList env' H' (fun v => R (.ret v) H') →
      LeavesInM Fence.wide 0 P fn a'.tmps (After β w R) a'.defers .returning w' := by
    intro β' H' env' St S' hT' hM' hr
    refine leaves_sound (by simp) S.base_le a'.defers β' H' w' St S' hM'.2 fun w'' St'' S'' => ?_
    obtain ⟨v, v', g1, g2, g3⟩ := resV_sound S'' hT' h5 hr
    exact ⟨v', g1, β', H', St'', S'', v, g2, g3⟩
  cases e with
  | normal =>
    obtain ⟨β', H', env', St, S', hT', hM', hr⟩ := hq
    exact fin β' H' env' St S' hT' hM' hr
  | ret =>
    obtain ⟨β', H', env', St, S', hT', hM', hr⟩ := hq
    exact fin β' H' env' St S' hT' hM' hr
  | panic ch =>
    obtain ⟨β', H', env', v, v', St, S', hch, hv, hM', hsz, hr⟩ := hq
    refine leaves_sound (by simp) S.base_le a'.defers β' H' w' St S' hM'.2 fun w'' St'' S'' => ?_
    exact ⟨β', H', St'', S'', v, v', hch, hv, hr⟩
  | exit id => obtain ⟨β', H', env', _, _, _, _, hf⟩ := hq; exact hf.elim
  | goto t => exact hq.elim
  | outgrown => exact hq.elim

theorem icalls_of {f : FuncId} {fn : Func} {c : Code} {args : List Value} {H : IHeap} {R : IEnd → IHeap → Prop} (hm : P.follows .mixedOrders = true) (hf : funcOk P f fn c args.length)
    (h : iwp P fn.ntmps c [] (bodyQ P fn.results.toList R) (envOf 0 args) H) : ICalls P f args H R :=
  icalls_of_iw hf (iwp_sound hm hf.2.2.2.1 h)

end
end Ide

/- A reckoner for the ideal meaning: memory as trees. -/
set_option linter.unusedVariables false
set_option linter.unusedSimpArgs false
namespace Ide
open Go Go.RowKit

/-- New objects are numbered by the heap's length. -/
instance lenPol : Pol where
  pos := List.length
  ok := fun _ => .inl rfl
  kill := fun H i cs _ => by simp

theorem pos_end (H : IHeap) : Pol.pos H = H.length := rfl
theorem newO_end (H : IHeap) (o : IObj) : newO H o = H ++ [o] := putL_end o H

/-! ### trees -/
inductive Tr (α : Type) where
  | nil
  | node (v : Option α) (l r : Tr α)

def Tr.get {α : Type} : Tr α → Nat → Option α
  | .nil, _ => none
  | .node v l r, k =>
    match k with
    | 0 => v
    | k + 1 => bif Nat.beq (k % 2) 0 then l.get (k / 2) else r.get (k / 2)

def Tr.val {α : Type} : Tr α → Option α
  | .nil => none
  | .node v _ _ => v
def Tr.left {α : Type} : Tr α → Tr α
  | .nil => .nil
  | .node _ l _ => l
def Tr.right {α : Type} : Tr α → Tr α
  | .nil => .nil
  | .node _ _ r => r

def Tr.set {α : Type} : Nat → Tr α → Nat → α → Option (Tr α)
  | 0, _, _, _ => none
  | f + 1, t, k, a =>
    match k with
    | 0 => some (.node (some a) t.left t.right)
    | k + 1 =>
      bif Nat.beq (k % 2) 0 then
        match Tr.set f t.left (k / 2) a with
        | some l => some (.node t.val l t.right)
        | none => none
      else
        match Tr.set f t.right (k / 2) a with
        | some r => some (.node t.val t.left r)
        | none => none

theorem Tr.get_parts {α : Type} (t : Tr α) (k : Nat) : t.get (k + 1) = bif Nat.beq (k % 2) 0 then t.left.get (k / 2) else t.right.get (k / 2) := by
  cases t with
  | nil => cases Nat.beq (k % 2) 0 <;> rfl
  | node v l r => rfl
theorem Tr.get_zero {α : Type} (t : Tr α) : t.get 0 = t.val := by cases t <;> rfl

theorem Tr.get_set {α : Type} : ∀ (f : Nat) (t : Tr α) (k : Nat) (a : α) (t' : Tr α), Tr.set f t k a = some t' → ∀ j, t'.get j = if j = k then some a else t.get j
  | 0, _, _, _, _, h, _ => by cases h
  | f + 1, t, 0, a, t', h, j => by
    simp only [Tr.set, Option.some.injEq] at h
    subst h
    cases j with
    | zero => rfl
    | succ j => rw [if_neg (by omega), Tr.get_parts, Tr.get_parts]; rfl
  | f + 1, t, k + 1, a, t', h, j => by
    simp only [Tr.set] at h
    cases hb : Nat.beq (k % 2) 0 with
    | true =>
      rw [hb] at h
      simp only [cond_true] at h
      split at h
      · rename_i l hl
        cases h
        cases j with
        | zero => rw [if_neg (by omega), Tr.get_zero t]; rfl
        | succ j =>
          rw [Tr.get_parts, Tr.get_parts]
          have ih := Tr.get_set f t.left (k / 2) a l hl (j / 2)
          have hk : k % 2 = 0 := Nat.eq_of_beq_eq_true hb
          cases hj : Nat.beq (j % 2) 0 with
          | true =>
            have hj' : j % 2 = 0 := Nat.eq_of_beq_eq_true hj
            show l.get (j / 2) = _
            rw [ih]
            by_cases e : j = k
            · rw [if_pos (by rw [e]), if_pos (by rw [e])]
            · rw [if_neg (by omega), if_neg (by omega)]; rfl
          | false =>
            have hj' : j % 2 ≠ 0 := fun e => by rw [e] at hj; cases hj
            rw [if_neg (by omega)]
            rfl
      · cases h
    | false =>
      rw [hb] at h
      simp only [cond_false] at h
      split at h
      · rename_i r hr
        cases h
        have hk : k % 2 ≠ 0 := fun e => by rw [e] at hb; cases hb
        cases j with
        | zero => rw [if_neg (by omega), Tr.get_zero t]; rfl
        | succ j =>
          rw [Tr.get_parts, Tr.get_parts]
          have ih := Tr.get_set f t.right (k / 2) a r hr (j / 2)
          cases hj : Nat.beq (j % 2) 0 with
          | true =>
            have hj' : j % 2 = 0 := Nat.eq_of_beq_eq_true hj
            rw [if_neg (by omega)]
            rfl
          | false =>
            have hj' : j % 2 ≠ 0 := fun e => by rw [e] at hj; cases hj
            show r.get (j / 2) = _
            rw [ih]
            by_cases e : j = k
            · rw [if_pos (by rw [e]), if_pos (by rw [e])]
            · rw [if_neg (by omega), if_neg (by omega)]; rfl
      · cases h

/-! ### environments and heaps -/
abbrev XEnv := Tr Value
structure XHeap where
  n : Nat
  t : Tr IObj

def XEnv.lk (e : XEnv) (t : Nat) : Value :=
  match e.get t with
  | some v => v
  | none => anyV

def RepE (env : Env) (e : XEnv) : Prop := ∀ t, lk env t = XEnv.lk e t
def RepH (H : IHeap) (h : XHeap) : Prop := H.length = h.n ∧ ∀ i, H[i]? = h.t.get i

def xput (e : XEnv) (d : Option Nat) (v : Value) : Option XEnv :=
  match d with
  | none => some e
  | some t => Tr.set 20 e t v

theorem xput_rep {env : Env} {e e' : XEnv} {d : Option Nat} {v : Value} (h : RepE env e) (hp : xput e d v = some e') : RepE (put env d v) e' := by
  intro t
  rw [lk_put]
  cases d with
  | none => cases hp; simpa using h t
  | some s =>
    have := Tr.get_set 20 e s v e' hp t
    unfold XEnv.lk
    rw [this]
    by_cases he : t = s
    · subst he; simp
    · rw [if_neg (by simp; exact fun h => he h.symm), if_neg he]
      exact h t

def XHeap.push (h : XHeap) (o : IObj) : Option XHeap :=
  match Tr.set 40 h.t h.n o with
  | some t => some ⟨h.n + 1, t⟩
  | none => none

def XHeap.set (h : XHeap) (i : Nat) (o : IObj) : Option XHeap :=
  bif Nat.blt i h.n then
    match Tr.set 40 h.t i o with
    | some t => some ⟨h.n, t⟩
    | none => none
  else none

theorem push_rep {H : IHeap} {h h' : XHeap} {o : IObj} (hr : RepH H h) (hp : h.push o = some h') : RepH (H ++ [o]) h' := by
  unfold XHeap.push at hp
  split at hp
  · rename_i t ht
    cases hp
    refine ⟨by simp [hr.1], fun i => ?_⟩
    rw [Tr.get_set 40 _ _ _ _ ht i, ← hr.1]
    by_cases e : i = H.length
    · subst e; simp
    · rw [if_neg e, ← hr.2 i]
      by_cases hlt : i < H.length
      · rw [List.getElem?_append_left hlt]
      · rw [List.getElem?_eq_none (by simp; omega), List.getElem?_eq_none (by omega)]
  · cases hp

theorem push_repO {H : IHeap} {h h' : XHeap} {o : IObj} (hr : RepH H h) (hp : h.push o = some h') : RepH (newO H o) h' := by rw [newO_end]; exact push_rep hr hp

theorem set_rep {H : IHeap} {h h' : XHeap} {i : Nat} {o : IObj} (hr : RepH H h) (hp : h.set i o = some h') : RepH (H.set i o) h' := by
  unfold XHeap.set at hp
  cases hb : Nat.blt i h.n with
  | false => rw [hb] at hp; cases hp
  | true =>
    rw [hb] at hp
    simp only [cond_true] at hp
    split at hp
    · rename_i t ht
      cases hp
      have hlt : i < H.length := by rw [hr.1]; simpa [Nat.blt_eq] using hb
      refine ⟨by simp [hr.1], fun j => ?_⟩
      rw [Tr.get_set 40 _ _ _ _ ht j]
      by_cases e : j = i
      · subst e; simp [hlt]
      · rw [if_neg e, List.getElem?_set_ne (fun h => e h.symm)]; exact hr.2 j
    · cases hp

end Ide
