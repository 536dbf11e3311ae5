/- Code. -/
import Derived.Test.YtjjnlbceoajllaaGreatIdeR
set_option linter.unusedVariables false
set_option linter.unusedSimpArgs false
namespace Ide
open Go Go.RowKit

/-- What is asked of the text of code. rf: a range over a function may stand in it. -/
def codeOk (P : Program) (nt : Nat) : Bool → Code → Bool
  | _, .skip => true
  | _, .region _ ops false => ops.toList.all (okOper nt)
  | _, .region _ ops true => drawOk P nt ops.toList
  | rf, .seq a b => codeOk P nt rf a && codeOk P nt rf b
  | rf, .cond c a b => okOpd nt c && codeOk P nt rf a && codeOk P nt rf b
  | rf, .block _ a => codeOk P nt rf a
  | rf, .loop a => codeOk P nt rf a
  | rf, .scope a => codeOk P nt rf a
  | rf, .rangeFunc g ps assign body => rf && okOpd nt g && ps.toList.all (Nat.blt · nt) && codeOk P nt false assign && codeOk P nt false body
  | _, .exit _ => true
  | _, .label _ => true
  | _, .ret => true
  | _, _ => false

theorem has_false : ∀ {e : Env} {t : Nat}, has e t = false → lk e t = anyV
  | [], t, _ => rfl
  | (s, v) :: r, t, h => by
    simp only [has] at h
    simp only [lk]
    cases hb : Nat.beq s t with
    | true => rw [hb] at h; cases h
    | false => rw [hb] at h; exact has_false h

theorem lk_keep : ∀ (l : List Nat) (e : Env) (t : Nat), lk (keep l e) t = lk e t ∨ lk (keep l e) t = anyV
  | [], e, t => .inr rfl
  | x :: l, e, t => by
    simp only [keep]
    cases h : has e x with
    | false => exact lk_keep l e t
    | true =>
      simp only [cond_true, lk]
      cases hb : Nat.beq x t with
      | true =>
        have := Nat.eq_of_beq_eq_true hb
        subst this
        exact .inl rfl
      | false => exact lk_keep l e t

theorem TRel.keep {L : LMap} {nt : Nat} {e : Env} {tm : Array Value} (h : TRel L nt e tm) (l : List Nat) : TRel L nt (Ide.keep l e) tm :=
  ⟨h.1, fun t ht => by
    rcases lk_keep l e t with e' | e' <;> rw [e']
    · exact h.2 t ht
    · exact .any _⟩

section
variable {P : Program} {nt : Nat} {ro : Option Nat}

/-- A loop, in the machine, at the head of a round. -/
def LW (ro : Option Nat) (P : Program) (nt : Nat) (c : Code) (Q : IExit → Env → IHeap → Prop) (env : Env) (H : IHeap) : Prop :=
  ∀ (n0 : Nat) (β : Emb) (w : World) (a : Act), Sim β H w → TRel β.loc nt env a.tmps → Mk n0 β w a.defers →
    ∀ (b : Frame) (k : List Item) (cs : List Frame), b.roundOf = (Fz ro).round → (Fz ro).fn b.fn → (Fz ro).room (cs.length + 1 + 0) →
      ∃ e a' w', QR n0 nt β w Q e a' w' ∧ ArrivesIn (Machine.fenced P (Fz ro)) P (lone (b.atR a (.code c :: .inLoop c :: k)) cs w) b k cs e a' w'

theorem loop_step {c : Code} {l : List Nat} {Q : IExit → Env → IHeap → Prop} {env : Env} {H : IHeap} (h : IW ro P nt c (thn (fun env H => LW ro P nt c Q (keep l env) H) Q) env H) : LW ro P nt c Q env H := by
  intro n0 β w a S hT hM b k cs hro hb hr
  obtain ⟨e, a₁, w₁, hq, harr⟩ := h n0 β w a S hT hM b (.inLoop c :: k) cs hro hb hr
  cases e with
  | normal =>
    obtain ⟨β', H', env', St, S', hT', hM', hn⟩ := hq
    obtain ⟨e₂, a₂, w₂, hq₂, harr₂⟩ := hn n0 β' w₁ a₁ S' (hT'.keep l) hM' b k cs hro hb hr
    exact ⟨e₂, a₂, w₂, hq₂.trans St, .of_steps (StepsIn.trans harr (.one (fenced_calm hb hr rfl) stepR_inLoop)) harr₂⟩
  | exit id => exact ⟨.exit id, a₁, w₁, hq, .pass (x := .inLoop c) rfl (fun _ _ => .inl (by simp)) harr⟩
  | goto l => exact hq.elim
  | ret => exact ⟨.ret, a₁, w₁, hq, .pass (x := .inLoop c) rfl (fun _ _ => .inl (by simp)) harr⟩
  | panic ch => exact ⟨.panic ch, a₁, w₁, hq, .pass (x := .inLoop c) rfl (fun _ _ => .inl (by simp)) harr⟩
  | outgrown => exact hq.elim

theorem loop_of {c : Code} {Q : IExit → Env → IHeap → Prop} {env : Env} {H : IHeap} {l : List Nat} (h : LW ro P nt c Q (keep l env) H) : IW ro P nt (.loop c) Q env H := by
  intro n0 β w a S hT hM b k cs hro hb hr
  obtain ⟨e, a', w', hq, harr⟩ := h n0 β w a S (hT.keep l) hM b k cs hro hb hr
  exact ⟨e, a', w', hq, .of_steps (.one (fenced_calm hb hr rfl) stepR_loop) harr⟩

theorem stepR_scope {b : Frame} {a : Act} {k : List Item} {cs : List Frame} {w : World} {c : Code} : step P (lone (b.atR a (.code (.scope c) :: k)) cs w) = .next (lone (b.atR a (.code c :: .inScope c :: k)) cs w) :=
  step_lone_go (by simp [stepG, stepG.exec, Frame.atR])
theorem stepR_inScope {b : Frame} {a : Act} {k : List Item} {cs : List Frame} {w : World} {c : Code} : step P (lone (b.atR a (.inScope c :: k)) cs w) = .next (lone (b.atR a k) cs w) :=
  step_lone_go (by simp [stepG, stepG.exec, Frame.atR])

theorem scope_of {c : Code} {Q : IExit → Env → IHeap → Prop} {env : Env} {H : IHeap} (h : IW ro P nt c Q env H) : IW ro P nt (.scope c) Q env H := by
  intro n0 β w a S hT hM b k cs hro hb hr
  have h0 : (lone (b.atR a (.code (.scope c) :: k)) cs w).fenced P (Fz ro) := fenced_calm hb hr rfl
  obtain ⟨e, a₁, w₁, hq, harr⟩ := h n0 β w a S hT hM b (.inScope c :: k) cs hro hb hr
  cases e with
  | normal => exact ⟨.normal, a₁, w₁, hq, .head h0 stepR_scope (StepsIn.trans harr (.one (fenced_calm hb hr rfl) stepR_inScope))⟩
  | exit id =>
    have hx : exitTo id (.inScope c :: k) = exitTo id k := by simp [exitTo]
    exact ⟨.exit id, a₁, w₁, hq, fun k' hk => .head h0 stepR_scope (harr.1 k' (by rw [hx]; exact hk)),
      fun hr' hk => let ⟨k₁, h1, h2⟩ := harr.2 hr' (by rw [hx]; exact hk); ⟨k₁, h1, .head h0 stepR_scope h2⟩⟩
  | goto l => exact hq.elim
  | ret => exact ⟨_, a₁, w₁, hq, .of_steps (.one h0 stepR_scope) harr⟩
  | panic ch => exact ⟨_, a₁, w₁, hq, .of_steps (.one h0 stepR_scope) harr⟩
  | outgrown => exact hq.elim

theorem iwp_sound_at (hm : P.follows .mixedOrders = true) (rf : Bool)
    (hrf : ∀ (g : Operand) (ps : Array Tmp) (assign body : Code) (lo : List Nat) (Q : IExit → Env → IHeap → Prop) (env : Env) (H : IHeap), codeOk P nt rf (.rangeFunc g ps assign body) = true → iwp P nt (.rangeFunc g ps assign body) lo Q env H → IW ro P nt (.rangeFunc g ps assign body) Q env H) :
    ∀ (c : Code) (lo : List Nat) (Q : IExit → Env → IHeap → Prop) (env : Env) (H : IHeap), codeOk P nt rf c = true → iwp P nt c lo Q env H → IW ro P nt c Q env H := by
  intro c
  induction c with
  | skip => intro lo Q env H _ h n0 β w a S hT hM; exact wpIn_skip ⟨β, H, env, Step.refl _ _, S, hT, hM, h⟩
  | region id ops draws =>
    intro lo Q env H hok h
    cases draws with
    | false => exact region_sound hok h
    | true => exact draw_sound hm hok h
  | seq x y ihx ihy =>
    intro lo Q env H hok h n0 β w a S hT hM
    simp only [codeOk, Bool.and_eq_true] at hok
    simp only [iwp] at h
    refine wpIn_seq (wpIn_mono (ihx _ _ _ _ hok.1 h n0 β w a S hT hM) fun e a' w' hq => ?_)
    cases e with
    | normal =>
      obtain ⟨β', H', env', St, S', hT', hM', hn⟩ := hq
      exact wpIn_mono (ihy _ _ _ _ hok.2 hn n0 β' w' a' S' (hT'.keep _) hM') fun e a w hq => hq.trans St
    | exit id => exact hq
    | goto l => exact hq
    | ret => exact hq
    | panic ch => exact hq
    | outgrown => exact hq
  | cond c x y ihx ihy =>
    intro lo Q env H hok h n0 β w a S hT hM
    simp only [codeOk, Bool.and_eq_true] at hok
    simp only [iwp] at h
    split at h
    · rename_i t ht
      have hc := iev_rel (a := a) hT hok.1.1
      rw [ht] at hc
      obtain ⟨h1, h2⟩ := bcase_sound h
      refine wpIn_cond_split hc.inv_bool (fun e => ihx _ _ _ _ hok.1.2 (h1 e) n0 β w a S hT hM) (fun e => ihy _ _ _ _ hok.2 (h2 e) n0 β w a S hT hM)
    · exact h.elim
  | block id x ih =>
    intro lo Q env H hok h n0 β w a S hT hM
    simp only [codeOk] at hok
    simp only [iwp] at h
    refine wpIn_block (wpIn_mono (ih _ _ _ _ hok h n0 β w a S hT hM) fun e a' w' hq => ?_)
    cases e with
    | normal => exact hq
    | exit i =>
      obtain ⟨β', H', env', St, S', hT', hM', hn⟩ := hq
      simp only [inB] at hn
      by_cases e : i = id
      · subst e
        simp only [Nat.beq_refl, cond_true] at hn
        simp only [Exit.inBlock, if_true]
        exact ⟨β', H', env', St, S', hT', hM', hn⟩
      · rw [beq_false e] at hn
        simp only [Exit.inBlock, e, if_false]
        exact ⟨β', H', env', St, S', hT', hM', hn⟩
    | goto l => exact hq
    | ret => exact hq
    | panic ch => exact hq
    | outgrown => exact hq
  | loop x ih =>
    intro lo Q env H hok h
    simp only [codeOk] at hok
    simp only [iwp] at h
    refine loop_of (h (LW ro P nt x Q) fun env H hx => ?_)
    exact loop_step (ih _ _ _ _ hok hx)
  | scope x ih =>
    intro lo Q env H hok h
    simp only [codeOk] at hok
    simp only [iwp] at h
    exact scope_of (ih _ _ _ _ hok h)
  | rangeFunc g ps assign body iha ihb => intro lo Q env H hok h; exact hrf g ps assign body lo Q env H hok h
  | exit id => intro lo Q env H _ h n0 β w a S hT hM; exact wpIn_exit ⟨β, H, env, Step.refl _ _, S, hT, hM, h⟩
  | label l => intro lo Q env H _ h n0 β w a S hT hM; exact wpIn_label ⟨β, H, env, Step.refl _ _, S, hT, hM, h⟩
  | ret => intro lo Q env H _ h n0 β w a S hT hM; exact wpIn_ret ⟨β, H, env, Step.refl _ _, S, hT, hM, h⟩
  | _ => intro lo Q env H hok _; simp [codeOk] at hok

/-- Code without ranges over functions: also within a round of one. -/
theorem iwp_sound_plain (hm : P.follows .mixedOrders = true) {c : Code} {lo : List Nat} {Q : IExit → Env → IHeap → Prop} {env : Env} {H : IHeap} (hok : codeOk P nt false c = true) (h : iwp P nt c lo Q env H) : IW ro P nt c Q env H :=
  iwp_sound_at hm false (fun g ps assign body lo Q env H hok _ => by simp [codeOk] at hok) c lo Q env H hok h

end
end Ide
