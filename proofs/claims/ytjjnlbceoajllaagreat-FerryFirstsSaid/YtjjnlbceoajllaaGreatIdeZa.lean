/- A reckoner for the ideal meaning: regions and code. -/
import Derived.Test.YtjjnlbceoajllaaGreatIdeZ
set_option linter.unusedVariables false
set_option linter.unusedSimpArgs false
namespace Ide
open Go Go.RowKit

/-- A call: its value and the memory behind it. -/
abbrev XCall := Fn → List Value → XHeap → Option (Value × XHeap)

def xguard (all : List Oper) (g : Option (Nat × Bool)) (e : XEnv) : Option Bool :=
  match g with
  | none => some true
  | some (j, want) =>
    match dstAt all j with
    | none => some false
    | some t =>
      match XEnv.lk e t with
      | .bool b => some (b == want)
      | .tuple ⟨[]⟩ => some false
      | _ => none

def xdo (P : Program) (call : XCall) (o : Oper) (e : XEnv) (h : XHeap) : Option (Value × XHeap) :=
  match o.op with
  | .call { callee := .value f, args := ⟨as⟩, .. } =>
    (match xev e f with
    | .func (.func g) ⟨first⟩ ⟨cap⟩ =>
      (match call (.func g) (first ++ as.map (xev e) ++ cap) h with
      | some (v, h') => bif xresult P o.type v then some (v, h') else none
      | none => none)
    | .func (.yield l) _ _ =>
      (match call (.yield l) (as.map (xev e)) h with
      | some (v, h') => bif xresult P o.type v then some (v, h') else none
      | none => none)
    | _ => none)
  | _ => xop P o e h

def xops (P : Program) (call : XCall) (all : List Oper) : List Oper → XEnv → XHeap → Option (XEnv × XHeap)
  | [], e, h => some (e, h)
  | o :: l, e, h =>
    match xguard all o.guard e with
    | some true =>
      (match xdo P call o e h with
      | some (v, h') => (match xput e o.dst v with | some e' => xops P call all l e' h' | none => none)
      | none => none)
    | some false => (match xput e o.dst undef with | some e' => xops P call all l e' h | none => none)
    | none => none

/-- The contract of what may be called. -/
def ICallF (P : Program) (f : Fn) (args : List Value) (H : IHeap) (R : IEnd → IHeap → Prop) : Prop :=
  match f with
  | .func g => ICalls P g args H R
  | .yield l => IYield P l args H R
  | _ => False

def CallOk (P : Program) (call : XCall) : Prop :=
  ∀ f args h v h', call f args h = some (v, h') → ∀ H, RepH H h → ∃ H', RepH H' h' ∧ ICallF P f args H (fun e H'' => e = .ret v ∧ H'' = H')

section
variable {P : Program} {call : XCall}

theorem xguard_sound {all : List Oper} {g : Option (Nat × Bool)} {env : Env} {e : XEnv} {b : Bool} (he : RepE env e) (hx : xguard all g e = some b) :
    ∃ env', RepE env' e ∧ ∀ (Y N : Env → Prop), (b = true → Y env') → (b = false → N env') → guarded all g env Y N := by
  unfold xguard at hx
  cases g with
  | none => cases hx; exact ⟨env, he, fun Y N h _ => h rfl⟩
  | some p =>
    obtain ⟨j, want⟩ := p
    simp only at hx
    cases hd : dstAt all j with
    | none =>
      rw [hd] at hx
      cases hx
      exact ⟨env, he, fun Y N _ h => by unfold guarded; simp only [hd]; exact h rfl⟩
    | some t =>
      rw [hd] at hx
      simp only at hx
      have hlk := he t
      split at hx
      · rename_i c hc
        cases hx
        rw [hc] at hlk
        refine ⟨(t, .bool c) :: env, fun s => (same_cons hlk s).trans (he s), fun Y N h h' => ?_⟩
        unfold guarded
        simp only [hd, hlk]
        cases c <;> cases want <;> first | exact h rfl | exact h' rfl
      · rename_i hc
        cases hx
        rw [hc] at hlk
        refine ⟨env, he, fun Y N _ h => ?_⟩
        unfold guarded
        simp only [hd, hlk]
        exact h rfl
      · cases hx

theorem xdo_sound (hc : CallOk P call) {H : IHeap} {h : XHeap} {o : Oper} {env : Env} {e : XEnv} {r : Value × XHeap} (he : RepE env e) (hr : RepH H h) (hx : xdo P call o e h = some r) :
    ∃ H', RepH H' r.2 ∧ ∀ (K : Value → IHeap → Prop) (Qp : Value → IHeap → Prop), K r.1 H' → iop P o env H K Qp := by
  have hev : iev env = xev e := funext fun x => xev_eq he x
  unfold xdo at hx
  split at hx
  · rename_i f as tys hop
    split at hx
    · rename_i g first cap hf
      split at hx
      · rename_i v h' hcall
        obtain ⟨hb, hx⟩ := bif_some hx
        cases hx
        obtain ⟨H', h1, h2⟩ := hc _ _ _ _ _ hcall H hr
        refine ⟨H', h1, fun K Qp hk => ?_⟩
        unfold iop
        rw [hop]
        show icall P o.type _ env H K Qp
        unfold icall
        simp only [hev]
        unfold icallV
        rw [hf]
        have h2 : ICalls P g (first ++ as.map (xev e) ++ cap) H _ := h2
        refine h2.mono fun e' H'' hh => ?_
        obtain ⟨rfl, rfl⟩ := hh
        show result P o.type v fun u => K u H''
        exact xresult_sound (K := fun u => K u H'') hb hk
      · cases hx
    · rename_i l z1 z2 hf
      split at hx
      · rename_i v h' hcall
        obtain ⟨hb, hx⟩ := bif_some hx
        cases hx
        obtain ⟨H', h1, h2⟩ := hc _ _ _ _ _ hcall H hr
        refine ⟨H', h1, fun K Qp hk => ?_⟩
        unfold iop
        rw [hop]
        show icall P o.type _ env H K Qp
        unfold icall
        simp only [hev]
        unfold icallV
        rw [hf]
        obtain ⟨st, pend, fn, tm, nt, params, assign, body, g1, g2, g3, g4⟩ := (h2 : IYield P l (as.map (xev e)) H _)
        refine ⟨st, pend, fn, tm, nt, params, assign, body, g1, g2, g3, fun fn => (g4 fn).mono fun e' H'' hh => ?_⟩
        obtain ⟨rfl, rfl⟩ := hh
        show result P o.type v fun u => K u H''
        exact xresult_sound (K := fun u => K u H'') hb hk
      · cases hx
    · cases hx
  · exact xop_sound he hr hx

theorem xops_sound (hc : CallOk P call) {all : List Oper} : ∀ (l : List Oper) {H : IHeap} {h : XHeap} {env : Env} {e : XEnv} {r : XEnv × XHeap}, RepE env e → RepH H h → xops P call all l e h = some r →
    ∃ env' H', RepE env' r.1 ∧ RepH H' r.2 ∧ ∀ (K : Env → IHeap → Prop) (Qp : Value → IHeap → Prop), K env' H' → irun P all l env H K Qp
  | [], H, h, env, e, r, he, hr, hx => by
    simp only [xops] at hx
    cases hx
    exact ⟨env, H, he, hr, fun K Qp h => h⟩
  | o :: l, H, h, env, e, r, he, hr, hx => by
    simp only [xops] at hx
    split at hx
    · rename_i hg
      obtain ⟨env1, he1, hG⟩ := xguard_sound he hg
      split at hx
      · rename_i v h' hd
        split at hx
        · rename_i e' hp
          obtain ⟨H1, hr1, hK⟩ := xdo_sound hc he1 hr hd
          obtain ⟨env', H', g1, g2, g3⟩ := xops_sound hc l (xput_rep he1 hp) hr1 hx
          exact ⟨env', H', g1, g2, fun K Qp hk => hG _ _ (fun _ => hK _ _ (g3 K Qp hk)) (fun h => by cases h)⟩
        · cases hx
      · cases hx
    · rename_i hg
      obtain ⟨env1, he1, hG⟩ := xguard_sound he hg
      split at hx
      · rename_i e' hp
        obtain ⟨env', H', g1, g2, g3⟩ := xops_sound hc l (xput_rep he1 hp) hr hx
        exact ⟨env', H', g1, g2, fun K Qp hk => hG _ _ (fun h => by cases h) (fun _ => g3 K Qp hk)⟩
      · cases hx
    · cases hx

end
end Ide
