/- A reckoner for the ideal meaning: code and functions. -/
import Derived.Test.YtjjnlbceoajllaaGreatIdeZb
set_option linter.unusedVariables false
set_option linter.unusedSimpArgs false
namespace Ide
open Go Go.RowKit

/-- What is known of some temporaries. -/
def envL (e : XEnv) : List Nat → Env
  | [] => []
  | t :: l => (t, XEnv.lk e t) :: envL e l

def notBusy : LoopState → Bool
  | .busy => false
  | _ => true

/-- The end of a range. -/
def xrangeEnd (l : Nat) (e : XEnv) (h : XHeap) : Option (IExit × XEnv × XHeap) :=
  match h.t.get l with
  | some (.loop st pend fn tm nt ps as bd) =>
    bif notBusy st then
      (match h.set l (.loop .exhausted pend fn tm nt ps as bd) with
      | some h' => (match pend with | none => some (.normal, e, h') | some .ret => some (.ret, e, h') | some (.exit id) => some (.exit id, e, h') | _ => none)
      | none => none)
    else none
  | _ => none

def xcode (P : Program) (nt : Nat) (call : XCall) : Nat → Code → XEnv → XHeap → Option (IExit × XEnv × XHeap)
  | 0, _, _, _ => none
  | n + 1, c, e, h =>
    match c with
    | .skip => some (.normal, e, h)
    | .region _ ops false => (match xops P call ops.toList ops.toList e h with | some (e', h') => some (.normal, e', h') | none => none)
    | .region _ ops true => (match xopsD P call ops.toList (befores ops.toList []) (canon ops.toList) e h [] with | some (e', h') => some (.normal, e', h') | none => none)
    | .seq a b => (match xcode P nt call n a e h with | some (.normal, e', h') => xcode P nt call n b e' h' | r => r)
    | .cond c a b => (match xev e c with | .bool true => xcode P nt call n a e h | .bool false => xcode P nt call n b e h | _ => none)
    | .block id a => (match xcode P nt call n a e h with | some (.exit i, e', h') => bif Nat.beq i id then some (.normal, e', h') else some (.exit i, e', h') | r => r)
    | .loop a => (match xcode P nt call n a e h with | some (.normal, e', h') => xcode P nt call n (.loop a) e' h' | r => r)
    | .scope a => xcode P nt call n a e h
    | .exit id => some (.exit id, e, h)
    | .label _ => some (.normal, e, h)
    | .ret => some (.ret, e, h)
    | .rangeFunc g ps a b =>
      (match xev e g with
      | .func (.func gf) ⟨first⟩ ⟨cap⟩ =>
        (match h.push (.loop .ready none 0 (envL e (minusN (unN (gens a) (gens b)) ps.toList)) nt ps a b) with
        | some h1 =>
          (match call (.func gf) (first ++ [.func (.yield h.n) #[] #[]] ++ cap) h1 with
          | some (_, h2) => xrangeEnd h.n e h2
          | none => none)
        | none => none)
      | _ => none)
    | _ => none

section
variable {P : Program} {nt : Nat} {call : XCall}

theorem lk_envL (e : XEnv) : ∀ (l : List Nat) (t : Nat), lk (envL e l) t = XEnv.lk e t ∨ lk (envL e l) t = anyV
  | [], t => .inr rfl
  | x :: l, t => by
    simp only [envL, lk]
    cases hb : Nat.beq x t with
    | true => rw [Nat.eq_of_beq_eq_true hb]; exact .inl rfl
    | false => exact lk_envL e l t

theorem xrangeEnd_sound {l : Nat} {e : XEnv} {h : XHeap} {H : IHeap} {r : IExit × XEnv × XHeap} (hr : RepH H h) (hx : xrangeEnd l e h = some r) :
    r.2.1 = e ∧ ∃ H', RepH H' r.2.2 ∧ ∀ Q : IExit → IHeap → Prop, Q r.1 H' → rangeEnd l H Q := by
  unfold xrangeEnd at hx
  split at hx
  · rename_i st pend fn tm nt ps as bd hg
    obtain ⟨hb, hx⟩ := bif_some hx
    have hst : st ≠ .busy := by intro h; subst h; cases hb
    split at hx
    · rename_i h' hs
      have hrep := set_rep hr hs
      split at hx
      · cases hx; exact ⟨rfl, _, hrep, fun Q hq => ⟨st, none, fn, tm, nt, ps, as, bd, (hr.2 l).trans hg, hst, hq⟩⟩
      · cases hx; exact ⟨rfl, _, hrep, fun Q hq => ⟨st, _, fn, tm, nt, ps, as, bd, (hr.2 l).trans hg, hst, hq⟩⟩
      · cases hx; exact ⟨rfl, _, hrep, fun Q hq => ⟨st, _, fn, tm, nt, ps, as, bd, (hr.2 l).trans hg, hst, hq⟩⟩
      · cases hx
    · cases hx
  · cases hx


theorem loop_step0 {ro : Option Nat} {c : Code} {Q : IExit → Env → IHeap → Prop} {env : Env} {H : IHeap} (h : IW ro P nt c (thn (fun env H => LW ro P nt c Q env H) Q) env H) : LW ro P nt c Q env H := by
  intro n0 β w a S hT hM b k cs hro hb hr
  obtain ⟨e, a₁, w₁, hq, harr⟩ := h n0 β w a S hT hM b (.inLoop c :: k) cs hro hb hr
  cases e with
  | normal =>
    obtain ⟨β', H', env', St, S', hT', hM', hn⟩ := hq
    obtain ⟨e₂, a₂, w₂, hq₂, harr₂⟩ := hn n0 β' w₁ a₁ S' hT' hM' b k cs hro hb hr
    exact ⟨e₂, a₂, w₂, hq₂.trans St, .of_steps (StepsIn.trans harr (.one (fenced_calm hb hr rfl) stepR_inLoop)) harr₂⟩
  | exit id => exact ⟨.exit id, a₁, w₁, hq, .pass (x := .inLoop c) rfl (fun _ _ => .inl (by simp)) harr⟩
  | goto l => exact hq.elim
  | ret => exact ⟨.ret, a₁, w₁, hq, .pass (x := .inLoop c) rfl (fun _ _ => .inl (by simp)) harr⟩
  | panic ch => exact ⟨.panic ch, a₁, w₁, hq, .pass (x := .inLoop c) rfl (fun _ _ => .inl (by simp)) harr⟩
  | outgrown => exact hq.elim

theorem loop_of0 {ro : Option Nat} {c : Code} {Q : IExit → Env → IHeap → Prop} {env : Env} {H : IHeap} (h : LW ro P nt c Q env H) : IW ro P nt (.loop c) Q env H := by
  intro n0 β w a S hT hM b k cs hro hb hr
  obtain ⟨e, a', w', hq, harr⟩ := h n0 β w a S hT hM b k cs hro hb hr
  exact ⟨e, a', w', hq, .of_steps (.one (fenced_calm hb hr rfl) stepR_loop) harr⟩

theorem seq_of {ro : Option Nat} {x y : Code} {Q : IExit → Env → IHeap → Prop} {env : Env} {H : IHeap} (h : IW ro P nt x (thn (fun env H => IW ro P nt y Q env H) Q) env H) : IW ro P nt (.seq x y) Q env H := by
  intro n0 β w a S hT hM
  refine wpIn_seq (wpIn_mono (h n0 β w a S hT hM) fun e a' w' hq => ?_)
  cases e with
  | normal =>
    obtain ⟨β', H', env', St, S', hT', hM', hn⟩ := hq
    exact wpIn_mono (hn n0 β' w' a' S' hT' hM') fun e a w hq => hq.trans St
  | exit id => exact hq
  | goto l => exact hq
  | ret => exact hq
  | panic ch => exact hq
  | outgrown => exact hq

theorem cond_of {ro : Option Nat} {c : Operand} {x y : Code} {t : Bool} {Q : IExit → Env → IHeap → Prop} {env : Env} {H : IHeap} (hok : okOpd nt c = true) (hc : iev env c = .bool t) (h : IW ro P nt (if t then x else y) Q env H) : IW ro P nt (.cond c x y) Q env H := by
  intro n0 β w a S hT hM
  have hc' := iev_rel (a := a) hT hok
  rw [hc] at hc'
  exact wpIn_cond hc'.inv_bool (h n0 β w a S hT hM)

theorem block_of {ro : Option Nat} {id : Nat} {x : Code} {Q : IExit → Env → IHeap → Prop} {env : Env} {H : IHeap} (h : IW ro P nt x (inB id Q) env H) : IW ro P nt (.block id x) Q env H := by
  intro n0 β w a S hT hM
  refine wpIn_block (wpIn_mono (h n0 β w a S hT hM) fun e a' w' hq => ?_)
  cases e with
  | normal => exact hq
  | exit i =>
    obtain ⟨β', H', env', St, S', hT', hM', hn⟩ := hq
    simp only [inB] at hn
    by_cases e : i = id
    · subst e
      simp only [Nat.beq_refl, cond_true] at hn
      simp only [Exit.inBlock, if_true]
      exact ⟨β', H', env', St, S', hT', hM', hn⟩
    · rw [beq_false e] at hn
      simp only [Exit.inBlock, e, if_false]
      exact ⟨β', H', env', St, S', hT', hM', hn⟩
  | goto l => exact hq
  | ret => exact hq
  | panic ch => exact hq
  | outgrown => exact hq

theorem xcode_sound {ro : Option Nat} {rf : Bool} (hro : rf = true → ro = none) (hm : P.follows .mixedOrders = true) (hc : CallOk P call) : ∀ (n : Nat),
    (∀ (c : Code) (H : IHeap) (h : XHeap) (env : Env) (e : XEnv) (r : IExit × XEnv × XHeap), codeOk P nt rf c = true → RepE env e → RepH H h → xcode P nt call n c e h = some r →
      ∃ env' H', RepE env' r.2.1 ∧ RepH H' r.2.2 ∧ ∀ Q : IExit → Env → IHeap → Prop, Q r.1 env' H' → IW ro P nt c Q env H) ∧
    (∀ (c : Code) (H : IHeap) (h : XHeap) (env : Env) (e : XEnv) (r : IExit × XEnv × XHeap), codeOk P nt rf c = true → RepE env e → RepH H h → xcode P nt call n (.loop c) e h = some r →
      ∃ env' H', RepE env' r.2.1 ∧ RepH H' r.2.2 ∧ ∀ Q : IExit → Env → IHeap → Prop, Q r.1 env' H' → LW ro P nt c Q env H)
  | 0 => ⟨(fun c H h env e r _ _ _ hx => by cases hx), (fun c H h env e r _ _ _ hx => by cases hx)⟩
  | n + 1 => by
    obtain ⟨ihA, ihB⟩ := xcode_sound hro hm hc n
    have B : ∀ (c : Code) (H : IHeap) (h : XHeap) (env : Env) (e : XEnv) (r : IExit × XEnv × XHeap), codeOk P nt rf c = true → RepE env e → RepH H h → xcode P nt call (n + 1) (.loop c) e h = some r →
        ∃ env' H', RepE env' r.2.1 ∧ RepH H' r.2.2 ∧ ∀ Q : IExit → Env → IHeap → Prop, Q r.1 env' H' → LW ro P nt c Q env H := by
      intro c H h env e r hok he hr hx
      simp only [xcode] at hx
      split at hx
      · rename_i e' h' ha
        obtain ⟨env1, H1, g1, g2, g3⟩ := ihA c H h env e _ hok he hr ha
        obtain ⟨env2, H2, k1, k2, k3⟩ := ihB c H1 h' env1 e' r hok g1 g2 hx
        exact ⟨env2, H2, k1, k2, fun Q hq => loop_step0 (g3 _ (k3 Q hq))⟩
      · rename_i hn
        obtain ⟨env1, H1, g1, g2, g3⟩ := ihA c H h env e _ hok he hr hx
        refine ⟨env1, H1, g1, g2, fun Q hq => loop_step0 (g3 _ ?_)⟩
        obtain ⟨x, e', h'⟩ := r
        cases x with
        | normal => exact (hn _ _ hx).elim
        | _ => exact hq
    refine ⟨?_, B⟩
    intro c H h env e r hok he hr hx
    have stay : ∀ {x : IExit}, (some (x, e, h) : Option (IExit × XEnv × XHeap)) = some r → (∀ Q : IExit → Env → IHeap → Prop, Q x env H → IW ro P nt c Q env H) → ∃ env' H', RepE env' r.2.1 ∧ RepH H' r.2.2 ∧ ∀ Q : IExit → Env → IHeap → Prop, Q r.1 env' H' → IW ro P nt c Q env H := by
      intro x hx hQ
      cases hx
      exact ⟨env, H, he, hr, hQ⟩
    cases c with
    | skip => exact stay hx fun Q hq n0 β w a S hT hM => wpIn_skip ⟨β, H, env, Step.refl _ _, S, hT, hM, hq⟩
    | exit id => exact stay hx fun Q hq n0 β w a S hT hM => wpIn_exit ⟨β, H, env, Step.refl _ _, S, hT, hM, hq⟩
    | label l => exact stay hx fun Q hq n0 β w a S hT hM => wpIn_label ⟨β, H, env, Step.refl _ _, S, hT, hM, hq⟩
    | ret => exact stay hx fun Q hq n0 β w a S hT hM => wpIn_ret ⟨β, H, env, Step.refl _ _, S, hT, hM, hq⟩
    | region id ops draws =>
      cases draws with
      | false =>
        simp only [xcode] at hx
        split at hx
        · rename_i e' h' ho
          cases hx
          obtain ⟨env', H', g1, g2, g3⟩ := xops_sound hc _ he hr ho
          exact ⟨env', H', g1, g2, fun Q hq => region_sound hok (g3 _ _ hq)⟩
        · cases hx
      | true =>
        simp only [xcode] at hx
        split at hx
        · rename_i e' h' ho
          cases hx
          obtain ⟨env', H', g1, g2, g3⟩ := xopsD_sound hc _ he hr .nil ho
          exact ⟨env', H', g1, g2, fun Q hq => draw_sound hm hok (g3 _ _ hq)⟩
        · cases hx
    | seq x y =>
      simp only [codeOk, Bool.and_eq_true] at hok
      simp only [xcode] at hx
      split at hx
      · rename_i e' h' ha
        obtain ⟨env1, H1, g1, g2, g3⟩ := ihA x H h env e _ hok.1 he hr ha
        obtain ⟨env2, H2, k1, k2, k3⟩ := ihA y H1 h' env1 e' r hok.2 g1 g2 hx
        exact ⟨env2, H2, k1, k2, fun Q hq => seq_of (g3 _ (k3 Q hq))⟩
      · rename_i hn
        obtain ⟨env1, H1, g1, g2, g3⟩ := ihA x H h env e _ hok.1 he hr hx
        refine ⟨env1, H1, g1, g2, fun Q hq => seq_of (g3 _ ?_)⟩
        obtain ⟨x', e', h'⟩ := r
        cases x' with
        | normal => exact (hn _ _ hx).elim
        | _ => exact hq
    | cond c x y =>
      simp only [codeOk, Bool.and_eq_true] at hok
      simp only [xcode] at hx
      have hev := xev_eq he c
      split at hx
      · rename_i hc'
        obtain ⟨env1, H1, g1, g2, g3⟩ := ihA x H h env e _ hok.1.2 he hr hx
        exact ⟨env1, H1, g1, g2, fun Q hq => cond_of hok.1.1 (hev.trans hc') (g3 Q hq)⟩
      · rename_i hc'
        obtain ⟨env1, H1, g1, g2, g3⟩ := ihA y H h env e _ hok.2 he hr hx
        exact ⟨env1, H1, g1, g2, fun Q hq => cond_of hok.1.1 (hev.trans hc') (g3 Q hq)⟩
      · cases hx
    | block id x =>
      simp only [codeOk] at hok
      simp only [xcode] at hx
      split at hx
      · rename_i i e' h' ha
        obtain ⟨env1, H1, g1, g2, g3⟩ := ihA x H h env e _ hok he hr ha
        cases hb : Nat.beq i id with
        | true =>
          rw [hb] at hx
          cases hx
          exact ⟨env1, H1, g1, g2, fun Q hq => block_of (g3 _ (by simp only [inB, hb, cond_true]; exact hq))⟩
        | false =>
          rw [hb] at hx
          cases hx
          exact ⟨env1, H1, g1, g2, fun Q hq => block_of (g3 _ (by simp only [inB, hb, cond_false]; exact hq))⟩
      · rename_i hn
        obtain ⟨env1, H1, g1, g2, g3⟩ := ihA x H h env e _ hok he hr hx
        refine ⟨env1, H1, g1, g2, fun Q hq => block_of (g3 _ ?_)⟩
        obtain ⟨x', e', h'⟩ := r
        cases x' with
        | exit i => exact (hn _ _ _ hx).elim
        | _ => exact hq
    | loop x =>
      simp only [codeOk] at hok
      obtain ⟨env1, H1, g1, g2, g3⟩ := B x H h env e r hok he hr hx
      exact ⟨env1, H1, g1, g2, fun Q hq => loop_of0 (g3 Q hq)⟩
    | scope x =>
      simp only [codeOk] at hok
      simp only [xcode] at hx
      obtain ⟨env1, H1, g1, g2, g3⟩ := ihA x H h env e r hok he hr hx
      exact ⟨env1, H1, g1, g2, fun Q hq => scope_of (g3 Q hq)⟩
    | rangeFunc g ps a b =>
      simp only [xcode] at hx
      split at hx
      · rename_i gf first cap hg
        split at hx
        · rename_i h1 hp
          split at hx
          · rename_i v h2 hcall
            simp only [codeOk, Bool.and_eq_true] at hok
            have hrf : rf = true := hok.1.1.1.1
            have hro' := hro hrf
            subst hro'
            obtain ⟨H2, hr2, hcl⟩ := hc _ _ _ _ _ hcall _ (push_rep hr hp)
            obtain ⟨e1, H3, hr3, hend⟩ := xrangeEnd_sound hr2 hx
            refine ⟨env, H3, by rw [e1]; exact he, hr3, fun Q hq => ?_⟩
            refine range_of hok.1.1.1.2 ((xev_eq he g).trans hg) (tm := envL e (minusN (unN (gens a) (gens b)) ps.toList)) (fun t => by rw [he t]; exact lk_envL e _ t) ?_
            rw [hr.1]
            refine (hcl : ICalls P gf _ _ _).mono fun e' H' hh => ?_
            obtain ⟨rfl, rfl⟩ := hh
            exact hend _ hq
          · cases hx
        · cases hx
      · cases hx
    | _ => cases hx

end
end Ide
