/- A reckoner for the ideal meaning: functions. -/
import Derived.Test.YtjjnlbceoajllaaGreatIdeZc
set_option linter.unusedVariables false
set_option linter.unusedSimpArgs false
namespace Ide
open Go Go.RowKit

def xres (P : Program) : List ResultVar → XEnv → XHeap → List Value → Option (List Value)
  | [], _, _, acc => some acc
  | .tmp t :: r, e, h, acc => xres P r e h (acc ++ [XEnv.lk e t])
  | .cell a t :: r, e, h, acc => (match xptr (XEnv.lk e a) with | some (i, o) => (match xload P t h i o with | some v => xres P r e h (acc ++ [v]) | none => none) | none => none)

def xenv : Nat → List Value → XEnv → Option XEnv
  | _, [], e => some e
  | i, v :: vs, e => (match Tr.set 20 e i v with | some e' => xenv (i + 1) vs e' | none => none)

/-- The text of a function is fit. -/
def fnOk (P : Program) (f : FuncId) : Bool :=
  match P.funcs[f]? with
  | some fn =>
    (match fn.body with
    | some c => !(fn.name == "runtime.NumGoroutine") && codeOk P fn.ntmps true c && fn.results.toList.all (okRes fn.ntmps)
    | none => false)
  | none => false

/-- An environment as a tree. -/
def xofL : Env → Option XEnv
  | [] => some .nil
  | (t, v) :: r => (match xofL r with | some e => Tr.set 20 e t v | none => none)

def xroundEnd (l : Nat) (x : IExit) (h : XHeap) : Option (Value × XHeap) :=
  match h.t.get l with
  | some (.loop _ _ fn tm nt ps as bd) =>
    (match x with
    | .normal => (match h.set l (.loop .ready none fn tm nt ps as bd) with | some h' => some (.bool true, h') | none => none)
    | .ret => (match h.set l (.loop .done (some .ret) fn tm nt ps as bd) with | some h' => some (.bool false, h') | none => none)
    | .exit id => (match h.set l (.loop .done (some (.exit id)) fn tm nt ps as bd) with | some h' => some (.bool false, h') | none => none)
    | .panic _ => none)
  | _ => none

/-- A round. -/
def xround (P : Program) (fuel : Nat) (call : XCall) (l : Nat) (args : List Value) (h : XHeap) : Option (Value × XHeap) :=
  match h.t.get l with
  | some (.loop st pend fn tm nt ps as bd) =>
    bif Nat.beq args.length ps.size && ps.toList.all (Nat.blt · nt) && codeOk P nt false as && codeOk P nt false bd then
      (match xofL (putAll ps.toList args tm) with
      | some e =>
        (match xcode P nt call fuel as e h with
        | some (.normal, e1, h1) =>
          (match h1.t.get l with
          | some (.loop .ready none fn1 tm1 nt1 ps1 as1 bd1) =>
            (match h1.set l (.loop .busy none fn1 tm1 nt1 ps1 as1 bd1) with
            | some h2 => (match xcode P nt call fuel bd e1 h2 with | some (x, _, h3) => xroundEnd l x h3 | none => none)
            | none => none)
          | _ => none)
        | _ => none)
      | none => none)
    else none
  | _ => none

/-- Calls, of functions of a list, so and so deep, with so much fuel each. -/
def xfun (P : Program) (ok : List FuncId) (fuel : Nat) : Nat → XCall
  | d + 1, .yield l, args, h => xround P fuel (xfun P ok fuel d) l args h
  | d + 1, .func f, args, h =>
    bif memN f ok then
      match P.funcs[f]? with
      | some fn =>
        (match fn.body with
        | some c =>
          bif Nat.ble args.length fn.ntmps then
            (match xenv 0 args .nil with
            | some e =>
              (match xcode P fn.ntmps (xfun P ok fuel d) fuel c e h with
              | some (.normal, e', h') => (match xres P fn.results.toList e' h' [] with | some vs => some (oneV vs, h') | none => none)
              | some (.ret, e', h') => (match xres P fn.results.toList e' h' [] with | some vs => some (oneV vs, h') | none => none)
              | _ => none)
            | none => none)
          else none
        | none => none)
      | none => none
    else none
  | _, _, _, _ => none

section
variable {P : Program}

theorem repH_eq {H H' : IHeap} {h : XHeap} (a : RepH H h) (b : RepH H' h) : H = H' := List.ext_getElem? fun i => (a.2 i).trans (b.2 i).symm

theorem xres_sound {H : IHeap} {h : XHeap} {env : Env} {e : XEnv} (he : RepE env e) (hr : RepH H h) : ∀ (rs : List ResultVar) (acc vs : List Value), xres P rs e h acc = some vs → ∀ K : List Value → Prop, K vs → resGo P rs env H acc K
  | [], acc, vs, hx, K, hk => by cases hx; exact hk
  | .tmp t :: r, acc, vs, hx, K, hk => by
    simp only [xres] at hx
    simp only [resGo]
    rw [he t]
    exact xres_sound he hr r _ _ hx K hk
  | .cell a t :: r, acc, vs, hx, K, hk => by
    simp only [xres] at hx
    simp only [resGo]
    rw [he a]
    split at hx
    · rename_i i o hp
      rw [xptr_sound hp]
      split at hx
      · rename_i v hv
        exact xload_sound hr hv (K := fun v => resGo P r env H (acc ++ [v]) K) (xres_sound he hr r _ _ hx K hk)
      · cases hx
    · cases hx

theorem xenv_rep : ∀ (vs : List Value) (i : Nat) (e e' : XEnv), xenv i vs e = some e' → ∀ t, XEnv.lk e' t = if i ≤ t ∧ t < i + vs.length then lk (envOf i vs) t else XEnv.lk e t
  | [], i, e, e', hx, t => by cases hx; rw [if_neg (by simp)]
  | v :: vs, i, e, e', hx, t => by
    simp only [xenv] at hx
    split at hx
    · rename_i e1 h1
      rw [xenv_rep vs (i + 1) e1 e' hx t]
      have hget := Tr.get_set 20 e i v e1 h1 t
      have hlk : XEnv.lk e1 t = if t = i then v else XEnv.lk e t := by
        unfold XEnv.lk
        rw [hget]
        by_cases h : t = i <;> simp [h]
      by_cases h : i = t
      · subst h
        rw [if_neg (by omega), if_pos (by simp), hlk, if_pos rfl]
        simp [envOf, lk]
      · have hne : t ≠ i := fun e => h e.symm
        have hl : lk (envOf i (v :: vs)) t = lk (envOf (i + 1) vs) t := by simp only [envOf, lk]; rw [beq_false h]; rfl
        rw [hl, hlk, if_neg hne]
        by_cases h2 : i + 1 ≤ t ∧ t < i + 1 + vs.length
        · rw [if_pos h2, if_pos (by simp only [List.length_cons]; omega)]
        · rw [if_neg h2, if_neg (by simp only [List.length_cons]; omega)]
    · cases hx

theorem xofL_rep : ∀ (l : Env) (e : XEnv), xofL l = some e → RepE l e
  | [], e, hx => by cases hx; intro t; simp [lk, XEnv.lk, Tr.get]
  | (s, v) :: r, e, hx => by
    simp only [xofL] at hx
    split at hx
    · rename_i e' h'
      intro t
      have hget := Tr.get_set 20 e' s v e hx t
      have ih := xofL_rep r e' h' t
      simp only [lk]
      unfold XEnv.lk
      rw [hget]
      by_cases h : s = t
      · subst h; simp
      · rw [beq_false h, cond_false, ih, if_neg (fun e => h e.symm)]
        rfl
    · cases hx

theorem xroundEnd_sound {l : Nat} {x : IExit} {h : XHeap} {H : IHeap} {r : Value × XHeap} (hr : RepH H h) (hx : xroundEnd l x h = some r) :
    ∃ H', RepH H' r.2 ∧ ∀ (R : IEnd → IHeap → Prop) (env : Env), R (.ret r.1) H' → roundEnd l R x env H := by
  unfold xroundEnd at hx
  split at hx
  · rename_i st pend fn tm nt ps as bd hg
    split at hx
    · split at hx
      · rename_i h' hs
        cases hx
        exact ⟨_, set_rep hr hs, fun R env hR => ⟨_, _, fn, tm, nt, ps, as, bd, (hr.2 l).trans hg, hR⟩⟩
      · cases hx
    · split at hx
      · rename_i h' hs
        cases hx
        exact ⟨_, set_rep hr hs, fun R env hR => ⟨_, _, fn, tm, nt, ps, as, bd, (hr.2 l).trans hg, hR⟩⟩
      · cases hx
    · split at hx
      · rename_i h' hs
        cases hx
        exact ⟨_, set_rep hr hs, fun R env hR => ⟨_, _, fn, tm, nt, ps, as, bd, (hr.2 l).trans hg, hR⟩⟩
      · cases hx
    · cases hx
  · cases hx

theorem xround_sound (hm : P.follows .mixedOrders = true) {fuel : Nat} {call : XCall} (hc : CallOk P call) {l : Nat} {args : List Value} {h h' : XHeap} {v : Value} (hx : xround P fuel call l args h = some (v, h')) {H : IHeap} (hr : RepH H h) :
    ∃ H', RepH H' h' ∧ IYield P l args H (fun e H'' => e = .ret v ∧ H'' = H') := by
  unfold xround at hx
  split at hx
  · rename_i st pend fn tm nt ps as bd hg
    obtain ⟨hb, hx⟩ := bif_some hx
    simp only [Bool.and_eq_true] at hb
    split at hx
    · rename_i e he
      split at hx
      · rename_i e1 h1 hxa
        split at hx
        · rename_i fn1 tm1 nt1 ps1 as1 bd1 hg1
          split at hx
          · rename_i h2 hs2
            split at hx
            · rename_i x e3 h3 hxb
              have A := fun ro => (xcode_sound (nt := nt) (ro := some ro) (rf := false) (fun h => by cases h) hm hc fuel).1 as H h (putAll ps.toList args tm) e _ hb.1.2 (xofL_rep _ _ he) hr hxa
              -- the environments behind the parts do not hang on the place of the record: they are found once
              obtain ⟨env1, H1, g1, g2, -⟩ := A 0
              have B := fun (env1 : Env) (H1 : IHeap) (g1 : RepE env1 e1) (g2 : RepH H1 h1) ro => (xcode_sound (nt := nt) (ro := some ro) (rf := false) (fun h => by cases h) hm hc fuel).1 bd _ h2 env1 e1 _ hb.2 g1 (set_rep g2 hs2) hxb
              obtain ⟨env3, H3, k1, k2, -⟩ := B env1 H1 g1 g2 0
              obtain ⟨H', r1, r2⟩ := xroundEnd_sound k2 hx
              refine ⟨H', r1, st, pend, fn, tm, nt, ps, as, bd, (hr.2 l).trans hg, Nat.eq_of_beq_eq_true hb.1.1.1, hb.1.1.2, fun fn' => iround_of fun ro => ?_⟩
              obtain ⟨env1', H1', g1', g2', g3'⟩ := A ro
              refine g3' _ ⟨fn1, tm1, nt1, ps1, as1, bd1, (g2'.2 l).trans hg1, ?_⟩
              obtain ⟨env3', H3', k1', k2', k3'⟩ := B env1' H1' g1' g2' ro
              refine k3' _ ?_
              have e3 : H3' = H3 := repH_eq k2' k2
              rw [e3]
              exact r2 _ env3' ⟨rfl, rfl⟩
            · cases hx
          · cases hx
        · cases hx
      · cases hx
    · cases hx
  · cases hx

theorem xfun_sound (hm : P.follows .mixedOrders = true) {ok : List FuncId} (hok : ok.all (fnOk P) = true) (fuel : Nat) : ∀ d, CallOk P (xfun P ok fuel d)
  | 0 => by intro g args h v h' hx; cases g <;> cases hx
  | d + 1 => by
    intro F args h v h' hx H hr
    have ih := xfun_sound hm hok fuel d
    cases F with
    | yield l => exact xround_sound hm ih hx hr
    | method n => cases hx
    | methodOf t n => cases hx
    | via t n f => cases hx
    | func f =>
    show ∃ H', RepH H' h' ∧ ICalls P f args H (fun e H'' => e = .ret v ∧ H'' = H')
    simp only [xfun] at hx
    obtain ⟨hmem, hx⟩ := bif_some hx
    have hfn : fnOk P f = true := by
      have key : ∀ l : List FuncId, memN f l = true → f ∈ l := by
        intro l
        induction l with
        | nil => intro h; cases h
        | cons x l ih =>
          intro h
          simp only [memN] at h
          cases hb : Nat.beq x f with
          | true => rw [Nat.eq_of_beq_eq_true hb]; simp
          | false => rw [hb] at h; exact List.mem_cons_of_mem _ (ih h)
      exact List.all_eq_true.1 hok f (key ok hmem)
    unfold fnOk at hfn
    split at hx
    · rename_i fn h1
      simp only [h1] at hfn
      split at hx
      · rename_i c h2
        simp only [h2, Bool.and_eq_true, Bool.not_eq_true'] at hfn
        obtain ⟨hlen, hx⟩ := bif_some hx
        have hF : funcOk P f fn c args.length := ⟨h1, h2, hfn.1.1, hfn.1.2, hfn.2, Nat.le_of_ble_eq_true hlen⟩
        split at hx
        · rename_i e he
          have hrep : RepE (envOf 0 args) e := by
            intro t
            rw [xenv_rep args 0 .nil e he t]
            by_cases h : t < args.length
            · rw [if_pos (by omega)]
            · rw [if_neg (by omega), lk_envOf, if_pos (Nat.zero_le _), Nat.sub_zero, List.getElem?_eq_none (by omega)]; rfl
          have hcode := fun r hx' => (xcode_sound (nt := fn.ntmps) (ro := none) (rf := true) (fun _ => rfl) hm ih fuel).1 c H h (envOf 0 args) e r hfn.1.2 hrep hr hx'
          split at hx
          · rename_i e' h'' hxc
            obtain ⟨env', H', g1, g2, g3⟩ := hcode _ hxc
            split at hx
            · rename_i vs hvs
              cases hx
              refine ⟨H', g2, icalls_of_iw hF (g3 _ ?_)⟩
              exact xres_sound g1 g2 _ _ _ hvs _ ⟨rfl, rfl⟩
            · cases hx
          · rename_i e' h'' hxc
            obtain ⟨env', H', g1, g2, g3⟩ := hcode _ hxc
            split at hx
            · rename_i vs hvs
              cases hx
              refine ⟨H', g2, icalls_of_iw hF (g3 _ ?_)⟩
              exact xres_sound g1 g2 _ _ _ hvs _ ⟨rfl, rfl⟩
            · cases hx
          · cases hx
        · cases hx
      · cases hx
    · cases hx

end
end Ide
