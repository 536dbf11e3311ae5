/- A reckoner that parts where a test is not decided: code that is run to its end, over variables. -/
import Derived.Test.YtjjnlbceoajllaaGreatIdeZk
set_option linter.unusedVariables false
set_option linter.unusedSimpArgs false
namespace Ide
open Go Go.RowKit

/-- A call: what it comes to has K. -/
abbrev YCall := Fn → List Value → XHeap → (Value → XHeap → Prop) → Prop

def YOk (P : Program) (call : YCall) : Prop := ∀ f args h K, call f args h K → ∀ H, RepH H h → ICallF P f args H (fun e H' => ∃ v h', e = .ret v ∧ RepH H' h' ∧ K v h')

def ysetB (e : XEnv) (t : Nat) (b : Bool) (K : XEnv → Prop) : Prop :=
  match Tr.set 20 e t (.bool b) with
  | some e' => K e'
  | none => False

/-- Which way a test goes, of tests on some temporaries: what is said so must be shown. -/
abbrev Guide := List (Nat × Bool)
def gdAt : Guide → Nat → Option Bool
  | [], _ => none
  | (s, b) :: r, t => bif Nat.beq s t then some b else gdAt r t
def ysplit (gd : Guide) (t : Nat) (b : Bool) (X Y : Prop) : Prop :=
  match gdAt gd t with
  | some true => b = true ∧ X
  | some false => b = false ∧ Y
  | none => bcase b X Y
theorem ysplit_bcase {gd : Guide} {t : Nat} {b : Bool} {X Y : Prop} (h : ysplit gd t b X Y) : bcase b X Y := by
  unfold ysplit at h
  split at h
  · obtain ⟨rfl, h⟩ := h; exact h
  · obtain ⟨rfl, h⟩ := h; exact h
  · exact h
def tmpOf : Operand → Nat
  | .tmp t => t
  | _ => 0

def yguard (gd : Guide) (all : List Oper) (g : Option (Nat × Bool)) (e : XEnv) (Y N : XEnv → Prop) : Prop :=
  match g with
  | none => Y e
  | some (j, want) =>
    match dstAt all j with
    | none => N e
    | some t =>
      match XEnv.lk e t with
      | .bool b => ysplit gd t b (ysetB e t true (match want with | true => Y | false => N)) (ysetB e t false (match want with | true => N | false => Y))
      | .tuple ⟨[]⟩ => N e
      | _ => False

def ydo (P : Program) (call : YCall) (o : Oper) (e : XEnv) (h : XHeap) (K : Value → XHeap → Prop) : Prop :=
  match o.op with
  | .call { callee := .value f, args := ⟨as⟩, .. } =>
    (match xev e f with
    | .func (.func g) ⟨first⟩ ⟨cap⟩ => call (.func g) (first ++ as.map (xev e) ++ cap) h fun v h' => bif xresult P o.type v then K v h' else False
    | .func (.yield l) _ _ => call (.yield l) (as.map (xev e)) h fun v h' => bif xresult P o.type v then K v h' else False
    | _ => False)
  | .pick c a b => (match xev e c with | .bool c => pickV c (xev e a) (xev e b) fun v => K v h | _ => False)
  | _ => (match xop P o e h with | some (v, h') => K v h' | none => False)

def yput (e : XEnv) (d : Option Nat) (v : Value) (K : XEnv → Prop) : Prop :=
  match xput e d v with
  | some e' => K e'
  | none => False

def yops (P : Program) (gd : Guide) (call : YCall) (all : List Oper) : List Oper → XEnv → XHeap → (XEnv → XHeap → Prop) → Prop
  | [], e, h, K => K e h
  | o :: l, e, h, K => yguard gd all o.guard e (fun e => ydo P call o e h fun v h' => yput e o.dst v fun e' => yops P gd call all l e' h' K) (fun e => yput e o.dst undef fun e' => yops P gd call all l e' h K)

def yopsD (P : Program) (gd : Guide) (call : YCall) (all : List Oper) (bs : List Nat) : List Nat → XEnv → XHeap → XWatch → (XEnv → XHeap → Prop) → Prop
  | [], e, h, _, K => K e h
  | i :: l, e, h, ws, K =>
    match all[i]? with
    | none => False
    | some o =>
      yguard gd all o.guard e
        (fun e => ydo P call o e h fun v h' => yput e o.dst v fun e' =>
          bif isActs o then (bif xwatching ws (bs.getD i 0) h' then yopsD P gd call all bs l e' h' ws K else False)
          else yopsD P gd call all bs l e' h' (xwatchOf i o e v h h' ++ ws) K)
        (fun e => yput e o.dst undef fun e' => yopsD P gd call all bs l e' h ws K)

def thnY (next : XEnv → XHeap → Prop) (K : IExit → XEnv → XHeap → Prop) : IExit → XEnv → XHeap → Prop
  | .normal, e, h => next e h
  | x, e, h => K x e h
def inBY (id : Nat) (K : IExit → XEnv → XHeap → Prop) : IExit → XEnv → XHeap → Prop
  | .exit i, e, h => bif Nat.beq i id then K .normal e h else K (.exit i) e h
  | x, e, h => K x e h

def yrangeEnd (l : Nat) (e : XEnv) (h : XHeap) (K : IExit → XEnv → XHeap → Prop) : Prop :=
  match xrangeEnd l e h with
  | some (x, e', h') => K x e' h'
  | none => False

def ycode (P : Program) (gd : Guide) (nt : Nat) (call : YCall) : Nat → Code → (IExit → XEnv → XHeap → Prop) → XEnv → XHeap → Prop
  | 0, _, _, _, _ => False
  | n + 1, c, K, e, h =>
    match c with
    | .skip => K .normal e h
    | .region _ ops false => yops P gd call ops.toList ops.toList e h (K .normal)
    | .region _ ops true => yopsD P gd call ops.toList (befores ops.toList []) (canon ops.toList) e h [] (K .normal)
    | .seq a b => ycode P gd nt call n a (thnY (fun e h => ycode P gd nt call n b K e h) K) e h
    | .cond c a b => (match xev e c with | .bool t => ysplit gd (tmpOf c) t (ycode P gd nt call n a K e h) (ycode P gd nt call n b K e h) | _ => False)
    | .block id a => ycode P gd nt call n a (inBY id K) e h
    | .loop a => ycode P gd nt call n a (thnY (fun e h => ycode P gd nt call n (.loop a) K e h) K) e h
    | .scope a => ycode P gd nt call n a K e h
    | .exit id => K (.exit id) e h
    | .label _ => K .normal e h
    | .ret => K .ret e h
    | .rangeFunc g ps a b =>
      (match xev e g with
      | .func (.func gf) ⟨first⟩ ⟨cap⟩ =>
        (match h.push (.loop .ready none 0 (envL e (minusN (unN (gens a) (gens b)) ps.toList)) nt ps a b) with
        | some h1 => call (.func gf) (first ++ [.func (.yield h.n) #[] #[]] ++ cap) h1 fun _ h2 => yrangeEnd h.n e h2 K
        | none => False)
      | _ => False)
    | _ => False

def yres (P : Program) (rs : List ResultVar) (e : XEnv) (h : XHeap) (K : Value → XHeap → Prop) : Prop :=
  match xres P rs e h [] with
  | some vs => K (oneV vs) h
  | none => False

def ybody (P : Program) (rs : List ResultVar) (K : Value → XHeap → Prop) : IExit → XEnv → XHeap → Prop
  | .normal, e, h => yres P rs e h K
  | .ret, e, h => yres P rs e h K
  | _, _, _ => False

def yroundEnd (l : Nat) (K : Value → XHeap → Prop) (x : IExit) (e : XEnv) (h : XHeap) : Prop :=
  match xroundEnd l x h with
  | some (v, h') => K v h'
  | none => False

def yround (P : Program) (gd : Guide) (fuel : Nat) (call : YCall) (l : Nat) (args : List Value) (h : XHeap) (K : Value → XHeap → Prop) : Prop :=
  match h.t.get l with
  | some (.loop st pend fn tm nt ps as bd) =>
    bif Nat.beq args.length ps.size && ps.toList.all (Nat.blt · nt) && codeOk P nt false as && codeOk P nt false bd then
      (match xofL (putAll ps.toList args tm) with
      | some e =>
        ycode P gd nt call fuel as (fun x e1 h1 => match x with
          | .normal =>
            (match h1.t.get l with
            | some (.loop .ready none fn1 tm1 nt1 ps1 as1 bd1) =>
              (match h1.set l (.loop .busy none fn1 tm1 nt1 ps1 as1 bd1) with
              | some h2 => ycode P gd nt call fuel bd (yroundEnd l K) e1 h2
              | none => False)
            | _ => False)
          | _ => False) e h
      | none => False)
    else False
  | _ => False

/-- Calls, of functions of a list, so and so deep, with so much fuel each; others by base. -/
def yfun (P : Program) (gds : FuncId → Guide) (ok : List FuncId) (fuel : Nat) (base : YCall) : Nat → YCall
  | d + 1, .yield l, args, h, K => yround P [] fuel (yfun P gds ok fuel base d) l args h K
  | d + 1, .func f, args, h, K =>
    bif memN f ok then
      match P.funcs[f]? with
      | some fn =>
        (match fn.body with
        | some c =>
          bif Nat.ble args.length fn.ntmps then
            (match xenv 0 args .nil with
            | some e => ycode P (gds f) fn.ntmps (yfun P gds ok fuel base d) fuel c (ybody P fn.results.toList K) e h
            | none => False)
          else False
        | none => False)
      | none => False
    else base (.func f) args h K
  | _, _, _, _, _ => False

section
variable {P : Program} {gd : Guide} {nt : Nat} {call : YCall}

/-- What a post-condition over trees says of lists. -/
def liftK (K : IExit → XEnv → XHeap → Prop) (x : IExit) (env : Env) (H : IHeap) : Prop := ∃ e h, RepE env e ∧ RepH H h ∧ K x e h

theorem ICallF.mono {f : Fn} {args : List Value} {H : IHeap} {R R' : IEnd → IHeap → Prop} (h : ICallF P f args H R) (hr : ∀ e H', R e H' → R' e H') : ICallF P f args H R' := by
  cases f with
  | func g => exact ICalls.mono h hr
  | yield l =>
    obtain ⟨st, pend, fn, tm, nt, params, assign, body, g1, g2, g3, g4⟩ := (h : IYield P l args H R)
    exact ⟨st, pend, fn, tm, nt, params, assign, body, g1, g2, g3, fun fn => (g4 fn).mono hr⟩
  | method m => exact h
  | methodOf t m => exact h
  | via a b c d => exact h

theorem yguard_sound {all : List Oper} {g : Option (Nat × Bool)} {env : Env} {e : XEnv} {Y N : XEnv → Prop} {Y' N' : Env → Prop} (he : RepE env e) (hy : ∀ env e, RepE env e → Y e → Y' env) (hn : ∀ env e, RepE env e → N e → N' env) (h : yguard gd all g e Y N) : guarded all g env Y' N' := by
  unfold yguard at h
  unfold guarded
  cases g with
  | none => exact hy _ _ he h
  | some p =>
    obtain ⟨j, want⟩ := p
    simp only at h ⊢
    generalize dstAt all j = d at h ⊢
    cases d with
    | none => exact hn _ _ he h
    | some t =>
      simp only at h ⊢
      rw [he t]
      generalize XEnv.lk e t = v at h ⊢
      have set : ∀ (b : Bool) (Z : XEnv → Prop) (Z' : Env → Prop), (∀ env e, RepE env e → Z e → Z' env) → ysetB e t b Z → Z' ((t, .bool b) :: env) := by
        intro b Z Z' hz h
        unfold ysetB at h
        split at h
        · rename_i e' hs
          refine hz _ _ ?_ h
          exact xput_rep (d := some t) he hs
        · exact h.elim
      cases v with
      | bool b =>
        have h := ysplit_bcase h
        simp only [bcase] at h ⊢
        cases b <;> cases want <;> first | exact set _ _ _ hy h | exact set _ _ _ hn h
      | tuple vs =>
        obtain ⟨vs⟩ := vs
        cases vs with
        | nil => exact hn _ _ he h
        | cons v vs => exact h.elim
      | _ => exact h.elim

theorem ydo_sound (hc : YOk P call) {H : IHeap} {h : XHeap} {o : Oper} {env : Env} {e : XEnv} {K : Value → XHeap → Prop} {K' : Value → IHeap → Prop} {Qp : Value → IHeap → Prop} (he : RepE env e) (hr : RepH H h)
    (hk : ∀ v h' H', RepH H' h' → K v h' → K' v H') (hx : ydo P call o e h K) : iop P o env H K' Qp := by
  have hev : iev env = xev e := funext fun x => xev_eq he x
  have plain : (match xop P o e h with | some (v, h') => K v h' | none => False) → iop P o env H K' Qp := by
    intro hx
    split at hx
    · rename_i v h' ho
      obtain ⟨H', h1, h2⟩ := xop_sound he hr ho
      exact h2 _ _ (hk v h' H' h1 hx)
    · exact hx.elim
  unfold ydo at hx
  split at hx
  · rename_i f as x1 hop
    unfold iop
    rw [hop]
    show icall P o.type _ env H K' Qp
    unfold icall
    simp only [hev]
    unfold icallV
    have fin : ∀ {e' : IEnd} {H' : IHeap}, (∃ v h', e' = .ret v ∧ RepH H' h' ∧ (bif xresult P o.type v then K v h' else False)) → endK P o.type K' Qp e' H' := by
      rintro e' H' ⟨v, h', rfl, h1, h2⟩
      obtain ⟨hb, h2⟩ := bifF h2
      exact xresult_sound (K := fun u => K' u H') hb (hk v h' H' h1 h2)
    split at hx
    · rename_i g first cap hf
      rw [hf]
      exact ICalls.mono (show ICalls P g _ H _ from hc _ _ _ _ hx H hr) fun e' H' hh => fin hh
    · rename_i l z1 z2 hf
      rw [hf]
      exact ICallF.mono (f := .yield l) (hc _ _ _ _ hx H hr) fun e' H' hh => fin hh
    · exact hx.elim
  · rename_i c a b hop
    unfold iop
    rw [hop]
    simp only [hev]
    split at hx
    · rename_i c' hc'
      rw [hc']
      exact det_pickV.mono (fun v h' => hk v h H hr h') hx
    · exact hx.elim
  · exact plain hx

theorem yput_sound {env : Env} {e : XEnv} {d : Option Nat} {v : Value} {K : XEnv → Prop} (he : RepE env e) (h : yput e d v K) : ∃ e', RepE (put env d v) e' ∧ K e' := by
  unfold yput at h
  split at h
  · rename_i e' hp; exact ⟨e', xput_rep he hp, h⟩
  · exact h.elim

theorem yops_sound (hc : YOk P call) {all : List Oper} {K : XEnv → XHeap → Prop} {K' : Env → IHeap → Prop} {Qp : Value → IHeap → Prop} (hk : ∀ env e H h, RepE env e → RepH H h → K e h → K' env H) :
    ∀ (l : List Oper) {H : IHeap} {h : XHeap} {env : Env} {e : XEnv}, RepE env e → RepH H h → yops P gd call all l e h K → irun P all l env H K' Qp
  | [], H, h, env, e, he, hr, hx => hk _ _ _ _ he hr hx
  | o :: l, H, h, env, e, he, hr, hx => by
    refine yguard_sound he (fun env e he hx => ydo_sound hc he hr (fun v h' H' hr' hx => ?_) hx) (fun env e he hx => ?_) hx
    · obtain ⟨e', he', hx⟩ := yput_sound he hx
      exact yops_sound hc hk l he' hr' hx
    · obtain ⟨e', he', hx⟩ := yput_sound he hx
      exact yops_sound hc hk l he' hr hx

theorem yopsD_sound (hc : YOk P call) {all : List Oper} {bs : List Nat} {K : XEnv → XHeap → Prop} {K' : Env → IHeap → Prop} {Qp : Value → IHeap → Prop} (hk : ∀ env e H h, RepE env e → RepH H h → K e h → K' env H) :
    ∀ (l : List Nat) {H : IHeap} {h : XHeap} {env : Env} {e : XEnv} {ws : Watch} {xs : XWatch}, RepE env e → RepH H h → RepW ws xs → yopsD P gd call all bs l e h xs K → irunD P all bs l env H ws K' Qp
  | [], H, h, env, e, ws, xs, he, hr, hw, hx => hk _ _ _ _ he hr hx
  | i :: l, H, h, env, e, ws, xs, he, hr, hw, hx => by
    cases ho : all[i]? with
    | none => simp only [yopsD, ho] at hx
    | some o =>
      simp only [yopsD, ho] at hx
      simp only [irunD, ho]
      refine yguard_sound he (fun env e he hx => ydo_sound hc he hr (fun v h' H' hr' hx => ?_) hx) (fun env e he hx => ?_) hx
      · obtain ⟨e', he', hx⟩ := yput_sound he hx
        cases ha : isActs o with
        | true =>
          rw [ha] at hx
          obtain ⟨hb, hx⟩ := bifF (hx : bif _ then _ else False)
          exact xwatching_sound hw hr' hb (yopsD_sound hc hk l he' hr' hw hx)
        | false =>
          rw [ha] at hx
          exact yopsD_sound hc hk l he' hr' ((xwatchOf_rep he hr hr').append hw) hx
      · obtain ⟨e', he', hx⟩ := yput_sound he hx
        exact yopsD_sound hc hk l he' hr hw hx

theorem ycode_sound {ro : Option Nat} {rf : Bool} (hro : rf = true → ro = none) (hm : P.follows .mixedOrders = true) (hc : YOk P call) : ∀ (n : Nat),
    (∀ (c : Code) (K : IExit → XEnv → XHeap → Prop) (H : IHeap) (h : XHeap) (env : Env) (e : XEnv), codeOk P nt rf c = true → RepE env e → RepH H h → ycode P gd nt call n c K e h → IW ro P nt c (liftK K) env H) ∧
    (∀ (c : Code) (K : IExit → XEnv → XHeap → Prop) (H : IHeap) (h : XHeap) (env : Env) (e : XEnv), codeOk P nt rf c = true → RepE env e → RepH H h → ycode P gd nt call n (.loop c) K e h → LW ro P nt c (liftK K) env H)
  | 0 => ⟨(fun c K H h env e _ _ _ hx => hx.elim), (fun c K H h env e _ _ _ hx => hx.elim)⟩
  | n + 1 => by
    obtain ⟨ihA, ihB⟩ := ycode_sound hro hm hc n
    have B : ∀ (c : Code) (K : IExit → XEnv → XHeap → Prop) (H : IHeap) (h : XHeap) (env : Env) (e : XEnv), codeOk P nt rf c = true → RepE env e → RepH H h → ycode P gd nt call (n + 1) (.loop c) K e h → LW ro P nt c (liftK K) env H := by
      intro c K H h env e hok he hr hx
      simp only [ycode] at hx
      refine loop_step0 (IW.mono (ihA c _ H h env e hok he hr hx) fun x env' H' hq => ?_)
      obtain ⟨e', h', he', hr', hk⟩ := hq
      cases x with
      | normal => exact ihB c K H' h' env' e' hok he' hr' hk
      | exit id => exact ⟨e', h', he', hr', hk⟩
      | ret => exact ⟨e', h', he', hr', hk⟩
      | panic v => exact ⟨e', h', he', hr', hk⟩
    refine ⟨?_, B⟩
    intro c K H h env e hok he hr hx
    have stay : ∀ {x : IExit}, K x e h → liftK K x env H := fun hk => ⟨e, h, he, hr, hk⟩
    cases c with
    | skip => exact fun n0 β w a S hT hM => wpIn_skip ⟨β, H, env, Step.refl _ _, S, hT, hM, stay hx⟩
    | exit id => exact fun n0 β w a S hT hM => wpIn_exit ⟨β, H, env, Step.refl _ _, S, hT, hM, stay hx⟩
    | label l => exact fun n0 β w a S hT hM => wpIn_label ⟨β, H, env, Step.refl _ _, S, hT, hM, stay hx⟩
    | ret => exact fun n0 β w a S hT hM => wpIn_ret ⟨β, H, env, Step.refl _ _, S, hT, hM, stay hx⟩
    | region id ops draws =>
      cases draws with
      | false => exact region_sound hok (yops_sound hc (fun env e H h he hr hk => ⟨e, h, he, hr, hk⟩) _ he hr hx)
      | true => exact draw_sound hm hok (yopsD_sound hc (fun env e H h he hr hk => ⟨e, h, he, hr, hk⟩) _ he hr .nil hx)
    | seq x y =>
      simp only [codeOk, Bool.and_eq_true] at hok
      simp only [ycode] at hx
      refine seq_of (IW.mono (ihA x _ H h env e hok.1 he hr hx) fun x env' H' hq => ?_)
      obtain ⟨e', h', he', hr', hk⟩ := hq
      cases x with
      | normal => exact ihA y K H' h' env' e' hok.2 he' hr' hk
      | exit id => exact ⟨e', h', he', hr', hk⟩
      | ret => exact ⟨e', h', he', hr', hk⟩
      | panic v => exact ⟨e', h', he', hr', hk⟩
    | cond c x y =>
      simp only [codeOk, Bool.and_eq_true] at hok
      simp only [ycode] at hx
      split at hx
      · rename_i t ht
        refine cond_of hok.1.1 ((xev_eq he c).trans ht) ?_
        have hx := ysplit_bcase hx
        cases t with
        | true => exact ihA x K H h env e hok.1.2 he hr hx
        | false => exact ihA y K H h env e hok.2 he hr hx
      · exact hx.elim
    | block id x =>
      simp only [codeOk] at hok
      simp only [ycode] at hx
      refine block_of (IW.mono (ihA x _ H h env e hok he hr hx) fun x env' H' hq => ?_)
      obtain ⟨e', h', he', hr', hk⟩ := hq
      cases x with
      | exit i =>
        simp only [inBY] at hk
        simp only [inB]
        cases hb : Nat.beq i id with
        | true => rw [hb] at hk; exact ⟨e', h', he', hr', hk⟩
        | false => rw [hb] at hk; exact ⟨e', h', he', hr', hk⟩
      | normal => exact ⟨e', h', he', hr', hk⟩
      | ret => exact ⟨e', h', he', hr', hk⟩
      | panic v => exact ⟨e', h', he', hr', hk⟩
    | loop x =>
      simp only [codeOk] at hok
      exact loop_of0 (B x K H h env e hok he hr hx)
    | scope x =>
      simp only [codeOk] at hok
      simp only [ycode] at hx
      exact scope_of (ihA x K H h env e hok he hr hx)
    | rangeFunc g ps a b =>
      simp only [ycode] at hx
      split at hx
      · rename_i gf first cap hg
        split at hx
        · rename_i h1 hp
          simp only [codeOk, Bool.and_eq_true] at hok
          have hrf : rf = true := hok.1.1.1.1
          have hro' := hro hrf
          subst hro'
          refine range_of hok.1.1.1.2 ((xev_eq he g).trans hg) (tm := envL e (minusN (unN (gens a) (gens b)) ps.toList)) (fun t => by rw [he t]; exact lk_envL e _ t) ?_
          rw [hr.1]
          refine ICalls.mono (show ICalls P gf _ _ _ from hc _ _ _ _ hx _ (push_rep hr hp)) fun e' H' hh => ?_
          obtain ⟨v, h2, rfl, hr2, hk⟩ := hh
          unfold yrangeEnd at hk
          split at hk
          · rename_i x e3 h3 hxr
            obtain ⟨e1, H3, hr3, hend⟩ := xrangeEnd_sound hr2 hxr
            refine hend _ ?_
            have e1 : e3 = e := e1
            subst e1
            exact ⟨e3, h3, he, hr3, hk⟩
          · exact hk.elim
        · exact hx.elim
      · exact hx.elim
    | _ => exact hx.elim

theorem yround_sound (hm : P.follows .mixedOrders = true) {fuel : Nat} (hc : YOk P call) {l : Nat} {args : List Value} {h : XHeap} {K : Value → XHeap → Prop} (hx : yround P gd fuel call l args h K) {H : IHeap} (hr : RepH H h) :
    IYield P l args H (fun e H' => ∃ v h', e = .ret v ∧ RepH H' h' ∧ K v h') := by
  unfold yround at hx
  split at hx
  · rename_i st pend fn tm nt ps as bd hg
    obtain ⟨hb, hx⟩ := bifF hx
    simp only [Bool.and_eq_true] at hb
    split at hx
    · rename_i e he
      refine ⟨st, pend, fn, tm, nt, ps, as, bd, (hr.2 l).trans hg, Nat.eq_of_beq_eq_true hb.1.1.1, hb.1.1.2, fun fn' => iround_of fun ro => ?_⟩
      refine IW.mono ((ycode_sound (nt := nt) (ro := some ro) (rf := false) (fun h => by cases h) hm hc fuel).1 as _ H h (putAll ps.toList args tm) e hb.1.2 (xofL_rep _ _ he) hr hx) fun x env1 H1 hq => ?_
      obtain ⟨e1, h1, g1, g2, hk⟩ := hq
      cases x with
      | normal =>
        simp only at hk
        split at hk
        · rename_i fn1 tm1 nt1 ps1 as1 bd1 hg1
          split at hk
          · rename_i h2 hs2
            refine ⟨fn1, tm1, nt1, ps1, as1, bd1, (g2.2 l).trans hg1, ?_⟩
            refine IW.mono ((ycode_sound (nt := nt) (ro := some ro) (rf := false) (fun h => by cases h) hm hc fuel).1 bd _ _ h2 env1 e1 hb.2 g1 (set_rep g2 hs2) hk) fun x env3 H3 hq => ?_
            obtain ⟨e3, h3, k1, k2, hk⟩ := hq
            unfold yroundEnd at hk
            split at hk
            · rename_i v h' hxr
              obtain ⟨H', r1, r2⟩ := xroundEnd_sound k2 hxr
              exact r2 _ env3 ⟨v, h', rfl, r1, hk⟩
            · exact hk.elim
          · exact hk.elim
        · exact hk.elim
      | exit id => exact hk
      | ret => exact hk
      | panic v => exact hk
    · exact hx.elim
  · exact hx.elim

theorem yfun_sound {gds : FuncId → Guide} (hm : P.follows .mixedOrders = true) {ok : List FuncId} (hok : ok.all (fnOk P) = true) (fuel : Nat) {base : YCall} (hb : YOk P base) : ∀ d, YOk P (yfun P gds ok fuel base d)
  | 0 => by intro g args h K hx; cases g <;> exact hx.elim
  | d + 1 => by
    intro F args h K hx H hr
    have ih := yfun_sound (gds := gds) hm hok fuel hb d
    cases F with
    | yield l => exact yround_sound hm ih hx hr
    | method n => exact hx.elim
    | methodOf t n => exact hx.elim
    | via t n f => exact hx.elim
    | func f =>
      simp only [yfun] at hx
      rcases bif2' hx with ⟨hmem, hx⟩ | ⟨_, hx⟩
      · have hfn : fnOk P f = true := List.all_eq_true.1 hok f (memN_iff.1 hmem)
        unfold fnOk at hfn
        show ICalls P f args H _
        split at hx
        · rename_i fn h1
          simp only [h1] at hfn
          split at hx
          · rename_i c h2
            simp only [h2, Bool.and_eq_true, Bool.not_eq_true'] at hfn
            obtain ⟨hlen, hx⟩ := bifF hx
            have hF : funcOk P f fn c args.length := ⟨h1, h2, hfn.1.1, hfn.1.2, hfn.2, Nat.le_of_ble_eq_true hlen⟩
            split at hx
            · rename_i e he
              have hrep : RepE (envOf 0 args) e := by
                intro t
                rw [xenv_rep args 0 .nil e he t]
                by_cases h : t < args.length
                · rw [if_pos (by omega)]
                · rw [if_neg (by omega), lk_envOf, if_pos (Nat.zero_le _), Nat.sub_zero, List.getElem?_eq_none (by omega)]; rfl
              refine icalls_of_iw hF (IW.mono ((ycode_sound (nt := fn.ntmps) (ro := none) (rf := true) (fun _ => rfl) hm ih fuel).1 c _ H h (envOf 0 args) e hfn.1.2 hrep hr hx) fun x env' H' hq => ?_)
              obtain ⟨e', h', g1, g2, hk⟩ := hq
              have res : yres P fn.results.toList e' h' K → resV P fn.results.toList env' H' fun v => ∃ v' h', IEnd.ret v = .ret v' ∧ RepH H' h' ∧ K v' h' := by
                intro hk
                unfold yres at hk
                split at hk
                · rename_i vs hvs
                  exact xres_sound g1 g2 _ _ _ hvs _ ⟨_, h', rfl, g2, hk⟩
                · exact hk.elim
              cases x with
              | normal => exact res hk
              | ret => exact res hk
              | exit id => exact hk.elim
              | panic v => exact hk.elim
            · exact hx.elim
          · exact hx.elim
        · exact hx.elim
      · exact hb _ _ _ _ hx H hr
where
  bif2' {b : Bool} {X Y : Prop} (h : bif b then X else Y) : (b = true ∧ X) ∨ (b = false ∧ Y) := by cases b with | true => exact .inl ⟨rfl, h⟩ | false => exact .inr ⟨rfl, h⟩

end

/-- A call without arguments, as reckoned. -/
theorem icalls_xtrue {P : Program} {f : FuncId} {ok : List FuncId} {fuel d : Nat} (hm : P.follows .mixedOrders = true) (hok : ok.all (fnOk P) = true) (hx : xtrue P ok fuel d f = true) : ICalls P f [] [] (fun e _ => e = .ret (.bool true)) := by
  unfold xtrue at hx
  split at hx
  · rename_i h' hh
    obtain ⟨H', _, hc⟩ := xfun_sound hm hok fuel d _ _ _ _ _ hh [] ⟨rfl, fun i => by simp [Tr.get]⟩
    exact ICalls.mono (show ICalls P f [] [] _ from hc) fun r H' h => h.1
  · cases hx

theorem yfun_use {P : Program} {gds : FuncId → Guide} {ok : List FuncId} {fuel d : Nat} {bs : YCall} {f : FuncId} {args : List Value} {h : XHeap} {H : IHeap} {K : Value → XHeap → Prop} (hm : P.follows .mixedOrders = true) (hok : ok.all (fnOk P) = true) (hb : YOk P bs) (hr : RepH H h)
    (hx : yfun P gds ok fuel bs d (.func f) args h K) : ICalls P f args H (fun e H' => ∃ v h', e = .ret v ∧ RepH H' h' ∧ K v h') :=
  yfun_sound (gds := gds) hm hok fuel hb d _ _ _ _ hx _ hr

end Ide
