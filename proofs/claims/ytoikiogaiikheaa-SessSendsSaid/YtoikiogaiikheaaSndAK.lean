/- A reckoner for the ideal meaning: operations are as reckoned. -/
import Derived.Test.YtoikiogaiikheaaSndAJ
set_option linter.unusedSectionVars false
set_option linter.unusedVariables false
set_option linter.unusedSimpArgs false
namespace Ide
open Go Go.RowKit

section
variable {P : Program} {H : IHeap} {h : XHeap}

theorem xpure {x : Option Value} {h : XHeap} {r : Value × XHeap} (hx : (match x with | some v => some (v, h) | none => none) = some r) : x = some r.1 ∧ r.2 = h := by
  cases x <;> cases hx; exact ⟨rfl, rfl⟩
theorem xunit {x : Option XHeap} {r : Value × XHeap} (hx : (match x with | some h' => some (anyV, h') | none => none) = some r) : x = some r.2 ∧ r.1 = anyV := by
  cases x <;> cases hx; exact ⟨rfl, rfl⟩
theorem xempty {x : Option XHeap} {r : Value × XHeap} (hx : (match x with | some h' => some (Value.tuple ⟨[]⟩, h') | none => none) = some r) : x = some r.2 ∧ r.1 = .tuple ⟨[]⟩ := by
  cases x <;> cases hx; exact ⟨rfl, rfl⟩

set_option maxHeartbeats 1000000 in
theorem xop_sound {o : Oper} {env : Env} {e : XEnv} {r : Value × XHeap} (he : RepE env e) (hr : RepH H h) (hx : xop P o e h = some r) :
    ∃ H', RepH H' r.2 ∧ ∀ (K : Value → IHeap → Prop) (Qp : Value → IHeap → Prop), K r.1 H' → iop P o env H K Qp := by
  have hev : iev env = xev e := funext fun x => xev_eq he x
  obtain ⟨dst, op, type, pos, after, guard⟩ := o
  have pv : ∀ {x : Option Value} {F : (Value → Prop) → Prop}, (match x with | some v => some (v, h) | none => none) = some r → (∀ v, x = some v → ∀ K, K v → F K) → ∃ H', RepH H' r.2 ∧ ∀ K : Value → IHeap → Prop, K r.1 H' → F fun v => K v H := by
    intro x F hx hF
    obtain ⟨h1, h2⟩ := xpure hx
    exact ⟨H, by rw [h2]; exact hr, fun K hk => hF _ h1 _ hk⟩
  have uv : ∀ {x : Option XHeap} {F : (IHeap → Prop) → Prop}, (match x with | some h' => some (anyV, h') | none => none) = some r → (∀ h', x = some h' → ∃ H', RepH H' h' ∧ ∀ K : IHeap → Prop, K H' → F K) → ∃ H', RepH H' r.2 ∧ ∀ K : Value → IHeap → Prop, K r.1 H' → F fun H' => K anyV H' := by
    intro x F hx hF
    obtain ⟨h1, h2⟩ := xunit hx
    obtain ⟨H', h3, h4⟩ := hF _ h1
    exact ⟨H', h3, fun K hk => h4 _ (by rw [h2] at hk; exact hk)⟩
  have tv : ∀ {x : Option XHeap} {F : (IHeap → Prop) → Prop}, (match x with | some h' => some (Value.tuple ⟨[]⟩, h') | none => none) = some r → (∀ h', x = some h' → ∃ H', RepH H' h' ∧ ∀ K : IHeap → Prop, K H' → F K) → ∃ H', RepH H' r.2 ∧ ∀ K : Value → IHeap → Prop, K r.1 H' → F fun H' => K (.tuple ⟨[]⟩) H' := by
    intro x F hx hF
    obtain ⟨h1, h2⟩ := xempty hx
    obtain ⟨H', h3, h4⟩ := hF _ h1
    exact ⟨H', h3, fun K hk => h4 _ (by rw [h2] at hk; exact hk)⟩
  have fin : ∀ {F : (Value → IHeap → Prop) → Prop}, (∃ H', RepH H' r.2 ∧ ∀ K : Value → IHeap → Prop, K r.1 H' → F K) → (∀ K Qp, F K → iop P ⟨dst, op, type, pos, after, guard⟩ env H K Qp) → ∃ H', RepH H' r.2 ∧ ∀ (K : Value → IHeap → Prop) (Qp : Value → IHeap → Prop), K r.1 H' → iop P ⟨dst, op, type, pos, after, guard⟩ env H K Qp := by
    rintro F ⟨H', h1, h2⟩ hF
    exact ⟨H', h1, fun K Qp hk => hF K Qp (h2 K hk)⟩
  cases op with
  | move x => simp only [xop] at hx; cases hx; exact ⟨H, hr, fun K Qp hk => by simp only [iop, hev]; exact hk⟩
  | assign x => simp only [xop] at hx; cases hx; exact ⟨H, hr, fun K Qp hk => by simp only [iop, hev]; exact hk⟩
  | pick c a b =>
    simp only [xop] at hx
    split at hx
    · rename_i c' hc
      cases hx
      refine ⟨H, hr, fun K Qp hk => ?_⟩
      simp only [iop, hev, hc]
      unfold pickV
      split
      · rename_i x y h1 h2
        rw [h1, h2] at hk
        cases c' <;> exact hk
      · cases c' <;> exact hk
    · cases hx
  | alloc t => exact fin (xalloc_sound hr hx) fun K Qp h => h
  | box t x => exact fin (xbox_sound hr hx) fun K Qp h => by simp only [iop, hev]; exact h
  | build t ps => exact fin (pv hx fun v hv K hk => xbuild_sound hv hk) fun K Qp h => by simp only [iop, hev]; exact h
  | buildSlice t n ps => exact fin (xbuildSlice_sound hr hx) fun K Qp h => by simp only [iop, hev]; exact h
  | load t x =>
    simp only [xop] at hx
    split at hx
    · rename_i i f hp
      exact fin (pv hx fun v hv K hk => xload_sound hr hv hk) fun K Qp h => by simp only [iop, hev]; rw [xptr_sound hp]; exact h
    · cases hx
  | store t x y =>
    simp only [xop] at hx
    split at hx
    · rename_i i f hp
      exact fin (uv hx fun h' hv => xstV_sound hr hv) fun K Qp h => by simp only [iop, hev]; rw [xptr_sound hp]; exact h
    · cases hx
  | nilCheck x =>
    simp only [xop] at hx
    split at hx
    · rename_i i f hp
      cases hx
      refine ⟨H, hr, fun K Qp hk => ?_⟩
      simp only [iop, hev]
      rw [xptr_sound hp]
      exact hk
    · split at hx
      · rename_i f a b hf
        cases hx
        refine ⟨H, hr, fun K Qp hk => ?_⟩
        simp only [iop, hev, hf]
        exact hk
      · cases hx
  | binOp op t x y z => exact fin (pv hx fun v hv K hk => xbinOp_sound hv hk) fun K Qp h => by simp only [iop, hev]; exact h
  | unOp op t x => exact fin (pv hx fun v hv K hk => xunOp_sound hv hk) fun K Qp h => by simp only [iop, hev]; exact h
  | convert s d x => exact fin (pv hx fun v hv K hk => xconvert_sound hv hk) fun K Qp h => by simp only [iop, hev]; exact h
  | makeFunc fn first cap =>
    cases fn <;> first | (cases hx; done) | skip
    simp only [xop] at hx
    cases hx
    exact ⟨H, hr, fun K Qp hk => by simp only [iop, hev]; exact hk⟩
  | makeMap t rr =>
    cases rr with
    | some rr => cases hx
    | none =>
      simp only [xop] at hx
      split at hx
      · rename_i h' hp
        cases hx
        refine ⟨_, push_repO hr hp, fun K Qp hk => ?_⟩
        simp only [iop]
        rw [pos_end, hr.1]
        exact hk
      · cases hx
  | makeSlice t l c => exact fin (xmakeSlice_sound hr hx) fun K Qp h => by simp only [iop, hev]; exact h
  | slice t x lo hi mx => exact fin (pv hx fun v hv K hk => xslice_sound hr hv hk) fun K Qp h => by simp only [iop, hev]; exact h
  | fieldAddr t x f => exact fin (pv hx fun v hv K hk => xfieldAddr_sound hv hk) fun K Qp h => by simp only [iop, hev]; exact h
  | field t x f => exact fin (pv hx fun v hv K hk => xfield_sound hv hk) fun K Qp h => by simp only [iop, hev]; exact h
  | indexAddr t x i => exact fin (pv hx fun v hv K hk => xindexAddr_sound hv hk) fun K Qp h => by simp only [iop, hev]; exact h
  | index t x i => exact fin (pv hx fun v hv K hk => xindex_sound hv hk) fun K Qp h => by simp only [iop, hev]; exact h
  | lookup t m k ok => exact fin (pv hx fun v hv K hk => xlookup_sound hr hv hk) fun K Qp h => by simp only [iop, hev]; exact h
  | mapUpdate t m k v => exact fin (uv hx fun h' hv => xmapUpdate_sound hr hv) fun K Qp h => by simp only [iop, hev]; exact h
  | insert t m k v => exact fin (uv hx fun h' hv => xmapUpdate_sound hr hv) fun K Qp h => by simp only [iop, hev]; exact h
  | mapEntry t m k => exact fin (xmapEntry_sound hr hx) fun K Qp h => by simp only [iop, hev]; exact h
  | entryStore t m s v => exact fin (uv hx fun h' hv => xentryStore_sound hr hv) fun K Qp h => by simp only [iop, hev]; exact h
  | extract x i => exact fin (pv hx fun v hv K hk => xextract_sound hv hk) fun K Qp h => by simp only [iop, hev]; exact h
  | call c =>
    obtain ⟨callee, ⟨as⟩, ⟨ts⟩⟩ := c
    cases callee with
    | value f => cases hx
    | invoke a b => cases hx
    | builtin b =>
      simp only [xop] at hx
      split at hx
      · rename_i t u ts x y as
        split at hx
        · rename_i e' hu
          exact fin (xappend_sound hr hx) fun K Qp h => by simp only [iop, icall, icallB, hev, List.map_cons, hu]; exact h
        · cases hx
      · exact fin (pv hx fun v hv K hk => xlen_sound hr hv hk) fun K Qp h => by simp only [iop, icall, icallB, hev, List.map_cons]; exact h
      · exact fin (pv hx fun v hv K hk => xminMax_sound hv hk) fun K Qp h => by simp only [iop, icall, icallB, hev]; exact h
      · exact fin (pv hx fun v hv K hk => xminMax_sound hv hk) fun K Qp h => by simp only [iop, icall, icallB, hev]; exact h
      · exact fin (tv hx fun h' hv => xmapDelete_sound hr hv) fun K Qp h => by simp only [iop, icall, icallB, hev, List.map_cons]; exact h
      · exact fin (tv hx fun h' hv => xclear_sound hr hv) fun K Qp h => by simp only [iop, icall, icallB, hev, List.map_cons]; exact h
      · rename_i t u ts x y as
        split at hx
        · rename_i e' hu
          exact fin (xcopy_sound hr hx) fun K Qp h => by simp only [iop, icall, icallB, hev, List.map_cons, hu]; exact h
        · cases hx
      · cases hx
  | _ => first | (cases hx; done) | (rename_i x; cases x <;> cases hx)

end
end Ide

/- A reckoner for the ideal meaning: regions and code. -/
set_option linter.unusedVariables false
set_option linter.unusedSimpArgs false
namespace Ide
open Go Go.RowKit

/-- A call: its value and the memory behind it. -/
abbrev XCall := Fn → List Value → XHeap → Option (Value × XHeap)

def xguard (all : List Oper) (g : Option (Nat × Bool)) (e : XEnv) : Option Bool :=
  match g with
  | none => some true
  | some (j, want) =>
    match dstAt all j with
    | none => some false
    | some t =>
      match XEnv.lk e t with
      | .bool b => some (b == want)
      | .tuple ⟨[]⟩ => some false
      | _ => none

def xdo (P : Program) (call : XCall) (o : Oper) (e : XEnv) (h : XHeap) : Option (Value × XHeap) :=
  match o.op with
  | .call { callee := .value f, args := ⟨as⟩, .. } =>
    (match xev e f with
    | .func (.func g) ⟨first⟩ ⟨cap⟩ =>
      (match call (.func g) (first ++ as.map (xev e) ++ cap) h with
      | some (v, h') => bif xresult P o.type v then some (v, h') else none
      | none => none)
    | .func (.yield l) _ _ =>
      (match call (.yield l) (as.map (xev e)) h with
      | some (v, h') => bif xresult P o.type v then some (v, h') else none
      | none => none)
    | _ => none)
  | _ => xop P o e h

def xops (P : Program) (call : XCall) (all : List Oper) : List Oper → XEnv → XHeap → Option (XEnv × XHeap)
  | [], e, h => some (e, h)
  | o :: l, e, h =>
    match xguard all o.guard e with
    | some true =>
      (match xdo P call o e h with
      | some (v, h') => (match xput e o.dst v with | some e' => xops P call all l e' h' | none => none)
      | none => none)
    | some false => (match xput e o.dst undef with | some e' => xops P call all l e' h | none => none)
    | none => none

/-- The contract of what may be called. -/
def ICallF (P : Program) (f : Fn) (args : List Value) (H : IHeap) (R : IEnd → IHeap → Prop) : Prop :=
  match f with
  | .func g => ICalls P g args H R
  | .yield l => IYield P l args H R
  | _ => False

def CallOk (P : Program) (call : XCall) : Prop :=
  ∀ f args h v h', call f args h = some (v, h') → ∀ H, RepH H h → ∃ H', RepH H' h' ∧ ICallF P f args H (fun e H'' => e = .ret v ∧ H'' = H')

section
variable {P : Program} {call : XCall}

theorem xguard_sound {all : List Oper} {g : Option (Nat × Bool)} {env : Env} {e : XEnv} {b : Bool} (he : RepE env e) (hx : xguard all g e = some b) :
    ∃ env', RepE env' e ∧ ∀ (Y N : Env → Prop), (b = true → Y env') → (b = false → N env') → guarded all g env Y N := by
  unfold xguard at hx
  cases g with
  | none => cases hx; exact ⟨env, he, fun Y N h _ => h rfl⟩
  | some p =>
    obtain ⟨j, want⟩ := p
    simp only at hx
    cases hd : dstAt all j with
    | none =>
      rw [hd] at hx
      cases hx
      exact ⟨env, he, fun Y N _ h => by unfold guarded; simp only [hd]; exact h rfl⟩
    | some t =>
      rw [hd] at hx
      simp only at hx
      have hlk := he t
      split at hx
      · rename_i c hc
        cases hx
        rw [hc] at hlk
        refine ⟨(t, .bool c) :: env, fun s => (same_cons hlk s).trans (he s), fun Y N h h' => ?_⟩
        unfold guarded
        simp only [hd, hlk]
        cases c <;> cases want <;> first | exact h rfl | exact h' rfl
      · rename_i hc
        cases hx
        rw [hc] at hlk
        refine ⟨env, he, fun Y N _ h => ?_⟩
        unfold guarded
        simp only [hd, hlk]
        exact h rfl
      · cases hx

theorem xdo_sound (hc : CallOk P call) {H : IHeap} {h : XHeap} {o : Oper} {env : Env} {e : XEnv} {r : Value × XHeap} (he : RepE env e) (hr : RepH H h) (hx : xdo P call o e h = some r) :
    ∃ H', RepH H' r.2 ∧ ∀ (K : Value → IHeap → Prop) (Qp : Value → IHeap → Prop), K r.1 H' → iop P o env H K Qp := by
  have hev : iev env = xev e := funext fun x => xev_eq he x
  unfold xdo at hx
  split at hx
  · rename_i f as tys hop
    split at hx
    · rename_i g first cap hf
      split at hx
      · rename_i v h' hcall
        obtain ⟨hb, hx⟩ := bif_some hx
        cases hx
        obtain ⟨H', h1, h2⟩ := hc _ _ _ _ _ hcall H hr
        refine ⟨H', h1, fun K Qp hk => ?_⟩
        unfold iop
        rw [hop]
        show icall P o.type _ env H K Qp
        unfold icall
        simp only [hev]
        unfold icallV
        rw [hf]
        have h2 : ICalls P g (first ++ as.map (xev e) ++ cap) H _ := h2
        refine h2.mono fun e' H'' hh => ?_
        obtain ⟨rfl, rfl⟩ := hh
        show result P o.type v fun u => K u H''
        exact xresult_sound (K := fun u => K u H'') hb hk
      · cases hx
    · rename_i l z1 z2 hf
      split at hx
      · rename_i v h' hcall
        obtain ⟨hb, hx⟩ := bif_some hx
        cases hx
        obtain ⟨H', h1, h2⟩ := hc _ _ _ _ _ hcall H hr
        refine ⟨H', h1, fun K Qp hk => ?_⟩
        unfold iop
        rw [hop]
        show icall P o.type _ env H K Qp
        unfold icall
        simp only [hev]
        unfold icallV
        rw [hf]
        obtain ⟨st, pend, fn, tm, nt, params, assign, body, g1, g2, g3, g4⟩ := (h2 : IYield P l (as.map (xev e)) H _)
        refine ⟨st, pend, fn, tm, nt, params, assign, body, g1, g2, g3, fun fn => (g4 fn).mono fun e' H'' hh => ?_⟩
        obtain ⟨rfl, rfl⟩ := hh
        show result P o.type v fun u => K u H''
        exact xresult_sound (K := fun u => K u H'') hb hk
      · cases hx
    · cases hx
  · exact xop_sound he hr hx

theorem xops_sound (hc : CallOk P call) {all : List Oper} : ∀ (l : List Oper) {H : IHeap} {h : XHeap} {env : Env} {e : XEnv} {r : XEnv × XHeap}, RepE env e → RepH H h → xops P call all l e h = some r →
    ∃ env' H', RepE env' r.1 ∧ RepH H' r.2 ∧ ∀ (K : Env → IHeap → Prop) (Qp : Value → IHeap → Prop), K env' H' → irun P all l env H K Qp
  | [], H, h, env, e, r, he, hr, hx => by
    simp only [xops] at hx
    cases hx
    exact ⟨env, H, he, hr, fun K Qp h => h⟩
  | o :: l, H, h, env, e, r, he, hr, hx => by
    simp only [xops] at hx
    split at hx
    · rename_i hg
      obtain ⟨env1, he1, hG⟩ := xguard_sound he hg
      split at hx
      · rename_i v h' hd
        split at hx
        · rename_i e' hp
          obtain ⟨H1, hr1, hK⟩ := xdo_sound hc he1 hr hd
          obtain ⟨env', H', g1, g2, g3⟩ := xops_sound hc l (xput_rep he1 hp) hr1 hx
          exact ⟨env', H', g1, g2, fun K Qp hk => hG _ _ (fun _ => hK _ _ (g3 K Qp hk)) (fun h => by cases h)⟩
        · cases hx
      · cases hx
    · rename_i hg
      obtain ⟨env1, he1, hG⟩ := xguard_sound he hg
      split at hx
      · rename_i e' hp
        obtain ⟨env', H', g1, g2, g3⟩ := xops_sound hc l (xput_rep he1 hp) hr hx
        exact ⟨env', H', g1, g2, fun K Qp hk => hG _ _ (fun h => by cases h) (fun _ => g3 K Qp hk)⟩
      · cases hx
    · cases hx

end
end Ide

/- A reckoner for the ideal meaning: values that are equal for certain; regions with an open order. -/
set_option linter.unusedVariables false
set_option linter.unusedSimpArgs false
namespace Ide
open Go Go.RowKit

def veq : Value → Value → Bool
  | .bool a, .bool b => a == b
  | .int k a, .int j b => kbeq k j && a == b
  | .string a, .string b => a.toList == b.toList
  | .pointer none, .pointer none => true
  | .pointer (some ⟨i, o, none⟩), .pointer (some ⟨j, p, none⟩) => Nat.beq i j && Nat.beq o p
  | .slice none n m, .slice none n' m' => Nat.beq n n' && Nat.beq m m'
  | .slice (some ⟨i, o, some q⟩) n m, .slice (some ⟨j, p, some r⟩) n' m' => Nat.beq i j && Nat.beq o p && Nat.beq q r && Nat.beq n n' && Nat.beq m m'
  | .map none, .map none => true
  | .map (some a), .map (some b) => Nat.beq a b
  | .nilFunc, .nilFunc => true
  | .nilIface, .nilIface => true
  | .agg a, .agg b => veqA a b
  | .tuple a, .tuple b => veqA a b
  | _, _ => false
  where
  veqA : Array Value → Array Value → Bool
    | ⟨a⟩, ⟨b⟩ => veqL a b
  veqL : List Value → List Value → Bool
    | [], [] => true
    | x :: a, y :: b => veq x y && veqL a b
    | _, _ => false

theorem str_eq {a b : ByteArray} (h : (a.toList == b.toList) = true) : a = b := by
  have h' : a.toList = b.toList := eq_of_beq h
  rw [ByteArray.toList_eq, ByteArray.toList_eq] at h'
  obtain ⟨⟨x⟩⟩ := a
  obtain ⟨⟨y⟩⟩ := b
  simp at h'
  rw [h']

mutual
theorem veq_eq : ∀ (a b : Value), veq a b = true → a = b
  | .bool a, b, h => by cases b <;> simp [veq] at h; rw [h]
  | .int k a, b, h => by cases b <;> simp [veq] at h; rw [kbeq_eq h.1, h.2]
  | .string a, b, h => by
    cases b <;> try (simp [veq] at h; done)
    rename_i b
    have h' : (a.toList == b.toList) = true := by simpa only [veq] using h
    rw [str_eq h']
  | .pointer none, b, h => by
    cases b <;> try (simp [veq] at h; done)
    rename_i b
    cases b with
    | none => rfl
    | some b => obtain ⟨j, p, s⟩ := b; cases s <;> simp [veq] at h
  | .pointer (some ⟨i, o, none⟩), b, h => by
    cases b <;> try (simp [veq] at h; done)
    rename_i b
    cases b with
    | none => simp [veq] at h
    | some b => obtain ⟨j, p, s⟩ := b; cases s <;> simp [veq] at h; rw [h.1, h.2]
  | .pointer (some ⟨i, o, some q⟩), b, h => by cases b <;> simp [veq] at h
  | .slice none n m, b, h => by
    cases b <;> try (simp [veq] at h; done)
    rename_i b n' m'
    cases b with
    | none => simp [veq] at h; rw [h.1, h.2]
    | some b => obtain ⟨j, p, s⟩ := b; cases s <;> simp [veq] at h
  | .slice (some ⟨i, o, none⟩) n m, b, h => by cases b <;> simp [veq] at h
  | .slice (some ⟨i, o, some q⟩) n m, b, h => by
    cases b <;> try (simp [veq] at h; done)
    rename_i b n' m'
    cases b with
    | none => simp [veq] at h
    | some b =>
      obtain ⟨j, p, s⟩ := b
      cases s <;> simp [veq] at h
      obtain ⟨⟨⟨⟨h1, h2⟩, h3⟩, h4⟩, h5⟩ := h
      rw [h1, h2, h3, h4, h5]
  | .map none, b, h => by
    cases b <;> try (simp [veq] at h; done)
    rename_i b
    cases b <;> simp [veq] at h
    rfl
  | .map (some a), b, h => by
    cases b <;> try (simp [veq] at h; done)
    rename_i b
    cases b <;> simp [veq] at h
    rw [h]
  | .nilFunc, b, h => by cases b <;> first | rfl | (simp [veq] at h; done)
  | .nilIface, b, h => by cases b <;> first | rfl | (simp [veq] at h; done)
  | .agg ⟨a⟩, b, h => by
    cases b <;> try (simp [veq] at h; done)
    rename_i b
    obtain ⟨b⟩ := b
    rw [veqL_eq a b (by simpa only [veq, veq.veqA] using h)]
  | .tuple ⟨a⟩, b, h => by
    cases b <;> try (simp [veq] at h; done)
    rename_i b
    obtain ⟨b⟩ := b
    rw [veqL_eq a b (by simpa only [veq, veq.veqA] using h)]
  | .float .., b, h => by simp [veq] at h
  | .complex .., b, h => by simp [veq] at h
  | .chan .., b, h => by simp [veq] at h
  | .func .., b, h => by simp [veq] at h
  | .iface .., b, h => by simp [veq] at h
theorem veqL_eq : ∀ (a b : List Value), veq.veqL a b = true → a = b
  | [], [], _ => rfl
  | [], _ :: _, h => by simp [veq.veqL] at h
  | _ :: _, [], h => by simp [veq.veqL] at h
  | x :: a, y :: b, h => by
    have h' : veq x y = true ∧ veq.veqL a b = true := by simpa [veq.veqL] using h
    rw [veq_eq x y h'.1, veqL_eq a b h'.2]
 end

def meq : List MapEntry → List MapEntry → Bool
  | [], [] => true
  | x :: a, y :: b => veq x.key y.key && veq x.val y.val && Nat.beq x.born y.born && meq a b
  | _, _ => false
theorem meq_eq : ∀ {a b : List MapEntry}, meq a b = true → a = b
  | [], [], _ => rfl
  | [], _ :: _, h => by cases h
  | _ :: _, [], h => by cases h
  | ⟨k, v, n⟩ :: a, ⟨k', v', n'⟩ :: b, h => by
    simp only [meq, Bool.and_eq_true] at h
    rw [veq_eq _ _ h.1.1.1, veq_eq _ _ h.1.1.2, Nat.eq_of_beq_eq_true h.1.2, meq_eq h.2]

def xreload (a v : Value) (h : XHeap) : Bool :=
  match xptr a with
  | some (i, o) =>
    (match v with
    | .agg ⟨cs⟩ => (match xcells h i o cs.length with | some cs' => veq.veqL cs' cs | none => false)
    | v => (match xcell h i o with | some u => veq u v | none => false))
  | none => false
theorem reload_cell {i o : Nat} {v : Value} {H : IHeap} (hn : ∀ cs, v = .agg ⟨cs⟩ → False) (h : cellAt H i o = some v) : reload (ptrTo i o) v H := by
  cases v with
  | agg cs => obtain ⟨cs⟩ := cs; exact (hn _ rfl).elim
  | _ => exact h

theorem xreload_sound {a v : Value} {h : XHeap} {H : IHeap} (hr : RepH H h) (hx : xreload a v h = true) : reload a v H := by
  unfold xreload at hx
  split at hx
  · rename_i i o hp
    rw [xptr_sound hp]
    split at hx
    · rename_i cs
      split at hx
      · rename_i cs' hc
        have := xcells_sound hr hc
        rw [veqL_eq _ _ hx] at this
        exact this
      · cases hx
    · rename_i hn
      split at hx
      · rename_i u hc
        have := (xcell_eq hr i o).trans hc
        rw [veq_eq _ _ hx] at this
        exact reload_cell hn this
      · cases hx
  · cases hx

def xremap (m : Value) (h h' : XHeap) : Bool :=
  match m with
  | .map (some r) => (match xmapAt h r, xmapAt h' r with | some (es, c), some (es', c') => meq es es' && Nat.beq c c' | _, _ => false)
  | .map none => true
  | .string _ => true
  | .slice .. => true
  | _ => false
theorem xremap_sound {m : Value} {h h' : XHeap} {H H' : IHeap} (hr : RepH H h) (hr' : RepH H' h') (hx : xremap m h h' = true) : remap m H H' := by
  unfold xremap at hx
  unfold remap
  split at hx
  · split at hx
    · rename_i es c es' c' h1 h2
      simp only [Bool.and_eq_true] at hx
      have e1 := xmapAt_sound hr h1
      have e2 := xmapAt_sound hr' h2
      rw [← meq_eq hx.1, ← Nat.eq_of_beq_eq_true hx.2] at e2
      exact ⟨es, c, e1, e2⟩
    · cases hx
  · trivial
  · trivial
  · trivial
  · cases hx

def xrearr (x : Value) (h h' : XHeap) : Bool :=
  match x with
  | .pointer (some ⟨b, _, none⟩) => (match h.t.get b, h'.t.get b with | some (.cells cs true), some (.cells cs' true) => Nat.beq cs'.length cs.length | _, _ => false)
  | _ => true
theorem xrearr_sound {x : Value} {h h' : XHeap} {H H' : IHeap} (hr : RepH H h) (hr' : RepH H' h') (hx : xrearr x h h' = true) : rearr x H H' := by
  unfold xrearr at hx
  unfold rearr
  split at hx
  · rename_i b o
    split at hx
    · rename_i cs cs' h1 h2
      exact ⟨cs, cs', (hr.2 b).trans h1, (hr'.2 b).trans h2, Nat.eq_of_beq_eq_true hx⟩
    · cases hx
  · rename_i hn
    split
    · exact (hn _ _ rfl).elim
    · trivial

def xmade (k : Nat) (h1 h' : XHeap) : Bool :=
  match h1.t.get k, h'.t.get k with
  | some (.cells a true), some (.cells b true) => veq.veqL a b
  | some (.map es c), some (.map es' c') => meq es es' && Nat.beq c c'
  | _, _ => false
theorem xmade_sound {k : Nat} {h1 h' : XHeap} {H1 H' : IHeap} (hr : RepH H1 h1) (hr' : RepH H' h') (hx : xmade k h1 h' = true) : ∃ o, H1[k]? = some o ∧ H'[k]? = some o := by
  unfold xmade at hx
  split at hx
  · rename_i a b h1 h2
    rw [← veqL_eq _ _ hx] at h2
    exact ⟨_, (hr.2 k).trans h1, (hr'.2 k).trans h2⟩
  · rename_i es c es' c' h1 h2
    simp only [Bool.and_eq_true] at hx
    rw [← meq_eq hx.1, ← Nat.eq_of_beq_eq_true hx.2] at h2
    exact ⟨_, (hr.2 k).trans h1, (hr'.2 k).trans h2⟩
  · cases hx

abbrev XWatch := List (Nat × (XHeap → Bool))

def xwatchOf (i : Nat) (o : Oper) (e : XEnv) (v : Value) (h h1 : XHeap) : XWatch :=
  match o.op with
  | .load _ a => [(i, xreload (xev e a) v)]
  | .lookup _ m _ _ => [(i, xremap (xev e m) h)]
  | .slice _ x _ _ _ => [(i, xrearr (xev e x) h)]
  | .call { args := ⟨x :: _⟩, callee := .builtin .len, .. } => [(i, xremap (xev e x) h)]
  | .alloc _ | .box .. | .buildSlice .. | .makeMap .. | .makeSlice .. => [(i, xmade h.n h1)]
  | _ => []

def xwatching : XWatch → Nat → XHeap → Bool
  | [], _, _ => true
  | (k, w) :: r, bm, h => (bif bm.testBit k then true else w h) && xwatching r bm h

inductive RepW : Watch → XWatch → Prop
  | nil : RepW [] []
  | cons {k : Nat} {w : IHeap → Prop} {x : XHeap → Bool} {ws : Watch} {xs : XWatch} (h : ∀ H h', RepH H h' → x h' = true → w H) (t : RepW ws xs) : RepW ((k, w) :: ws) ((k, x) :: xs)

theorem RepW.append {a b : Watch} {x y : XWatch} (h : RepW a x) (h' : RepW b y) : RepW (a ++ b) (x ++ y) := by
  induction h with
  | nil => exact h'
  | cons hh _ ih => exact .cons hh ih

theorem xwatchOf_rep {i : Nat} {o : Oper} {env : Env} {e : XEnv} {v : Value} {H H1 : IHeap} {h h1 : XHeap} (he : RepE env e) (hr : RepH H h) (hr1 : RepH H1 h1) : RepW (watchOf i o env v H H1) (xwatchOf i o e v h h1) := by
  have hev : ∀ x, iev env x = xev e x := xev_eq he
  have made : RepW [(i, fun H' => ∃ o, H1[Pol.pos H]? = some o ∧ H'[Pol.pos H]? = some o)] [(i, xmade h.n h1)] :=
    .cons (fun H' h' hr' hx => by rw [pos_end, hr.1]; exact xmade_sound hr1 hr' hx) .nil
  unfold watchOf xwatchOf
  generalize o.op = op
  cases op with
  | load t a => exact .cons (fun H' h' hr' hx => by rw [hev]; exact xreload_sound hr' hx) .nil
  | lookup t m k ok => exact .cons (fun H' h' hr' hx => by rw [hev]; exact xremap_sound hr hr' hx) .nil
  | call c =>
    obtain ⟨callee, ⟨as⟩, tys⟩ := c
    cases callee with
    | builtin b =>
      cases b with
      | len =>
        cases as with
        | nil => exact .nil
        | cons x as => exact .cons (fun H' h' hr' hx => by rw [hev]; exact xremap_sound hr hr' hx) .nil
      | _ => cases as <;> exact .nil
    | _ => cases as <;> exact .nil
  | slice t x lo hi mx => exact .cons (fun H' h' hr' hx => by rw [hev]; exact xrearr_sound hr hr' hx) .nil
  | alloc t => exact made
  | box t x => exact made
  | buildSlice t n ps => exact made
  | makeMap t r => exact made
  | makeSlice t l c => exact made
  | _ => exact .nil

theorem xwatching_sound {ws : Watch} {xs : XWatch} (hw : RepW ws xs) {bm : Nat} {H : IHeap} {h : XHeap} (hr : RepH H h) (hx : xwatching xs bm h = true) {X : Prop} (hX : X) : watching ws bm H X := by
  induction hw with
  | nil => exact hX
  | @cons k w x ws xs hh _ ih =>
    simp only [xwatching, Bool.and_eq_true] at hx
    simp only [watching]
    cases hb : bm.testBit k with
    | true => exact ih hx.2
    | false =>
      rw [hb] at hx
      exact ⟨hh _ _ hr hx.1, ih hx.2⟩

def xopsD (P : Program) (call : XCall) (all : List Oper) (bs : List Nat) : List Nat → XEnv → XHeap → XWatch → Option (XEnv × XHeap)
  | [], e, h, _ => some (e, h)
  | i :: l, e, h, ws =>
    match all[i]? with
    | none => none
    | some o =>
      match xguard all o.guard e with
      | some true =>
        (match xdo P call o e h with
        | some (v, h') =>
          (match xput e o.dst v with
          | some e' =>
            bif isActs o then (bif xwatching ws (bs.getD i 0) h' then xopsD P call all bs l e' h' ws else none)
            else xopsD P call all bs l e' h' (xwatchOf i o e v h h' ++ ws)
          | none => none)
        | none => none)
      | some false => (match xput e o.dst undef with | some e' => xopsD P call all bs l e' h ws | none => none)
      | none => none

theorem xopsD_sound {P : Program} {call : XCall} (hc : CallOk P call) {all : List Oper} {bs : List Nat} : ∀ (l : List Nat) {H : IHeap} {h : XHeap} {env : Env} {e : XEnv} {ws : Watch} {xs : XWatch} {r : XEnv × XHeap}, RepE env e → RepH H h → RepW ws xs → xopsD P call all bs l e h xs = some r →
    ∃ env' H', RepE env' r.1 ∧ RepH H' r.2 ∧ ∀ (K : Env → IHeap → Prop) (Qp : Value → IHeap → Prop), K env' H' → irunD P all bs l env H ws K Qp
  | [], H, h, env, e, ws, xs, r, he, hr, hw, hx => by
    simp only [xopsD] at hx
    cases hx
    exact ⟨env, H, he, hr, fun K Qp h => h⟩
  | i :: l, H, h, env, e, ws, xs, r, he, hr, hw, hx => by
    simp only [xopsD] at hx
    simp only [irunD]
    split at hx
    · cases hx
    · rename_i o ho
      simp only [ho]
      split at hx
      · rename_i hg
        obtain ⟨env1, he1, hG⟩ := xguard_sound he hg
        split at hx
        · rename_i v h' hd
          split at hx
          · rename_i e' hp
            obtain ⟨H1, hr1, hK⟩ := xdo_sound hc he1 hr hd
            cases ha : isActs o with
            | true =>
              rw [ha] at hx
              simp only [cond_true] at hx
              obtain ⟨hb, hx⟩ := bif_some hx
              obtain ⟨env', H', g1, g2, g3⟩ := xopsD_sound hc l (xput_rep he1 hp) hr1 hw hx
              refine ⟨env', H', g1, g2, fun K Qp hk => hG _ _ (fun _ => hK _ _ ?_) (fun h => by cases h)⟩
              exact xwatching_sound hw hr1 hb (g3 K Qp hk)
            | false =>
              rw [ha] at hx
              simp only [cond_false] at hx
              obtain ⟨env', H', g1, g2, g3⟩ := xopsD_sound hc l (xput_rep he1 hp) hr1 ((xwatchOf_rep he1 hr hr1).append hw) hx
              exact ⟨env', H', g1, g2, fun K Qp hk => hG _ _ (fun _ => hK _ _ (g3 K Qp hk)) (fun h => by cases h)⟩
          · cases hx
        · cases hx
      · rename_i hg
        obtain ⟨env1, he1, hG⟩ := xguard_sound he hg
        split at hx
        · rename_i e' hp
          obtain ⟨env', H', g1, g2, g3⟩ := xopsD_sound hc l (xput_rep he1 hp) hr hw hx
          exact ⟨env', H', g1, g2, fun K Qp hk => hG _ _ (fun h => by cases h) (fun _ => g3 K Qp hk)⟩
        · cases hx
      · cases hx

end Ide

/- A reckoner for the ideal meaning: code and functions. -/
set_option linter.unusedVariables false
set_option linter.unusedSimpArgs false
namespace Ide
open Go Go.RowKit

/-- What is known of some temporaries. -/
def envL (e : XEnv) : List Nat → Env
  | [] => []
  | t :: l => (t, XEnv.lk e t) :: envL e l

def notBusy : LoopState → Bool
  | .busy => false
  | _ => true

/-- The end of a range. -/
def xrangeEnd (l : Nat) (e : XEnv) (h : XHeap) : Option (IExit × XEnv × XHeap) :=
  match h.t.get l with
  | some (.loop st pend fn tm nt ps as bd) =>
    bif notBusy st then
      (match h.set l (.loop .exhausted pend fn tm nt ps as bd) with
      | some h' => (match pend with | none => some (.normal, e, h') | some .ret => some (.ret, e, h') | some (.exit id) => some (.exit id, e, h') | _ => none)
      | none => none)
    else none
  | _ => none

def xcode (P : Program) (nt : Nat) (call : XCall) : Nat → Code → XEnv → XHeap → Option (IExit × XEnv × XHeap)
  | 0, _, _, _ => none
  | n + 1, c, e, h =>
    match c with
    | .skip => some (.normal, e, h)
    | .region _ ops false => (match xops P call ops.toList ops.toList e h with | some (e', h') => some (.normal, e', h') | none => none)
    | .region _ ops true => (match xopsD P call ops.toList (befores ops.toList []) (canon ops.toList) e h [] with | some (e', h') => some (.normal, e', h') | none => none)
    | .seq a b => (match xcode P nt call n a e h with | some (.normal, e', h') => xcode P nt call n b e' h' | r => r)
    | .cond c a b => (match xev e c with | .bool true => xcode P nt call n a e h | .bool false => xcode P nt call n b e h | _ => none)
    | .block id a => (match xcode P nt call n a e h with | some (.exit i, e', h') => bif Nat.beq i id then some (.normal, e', h') else some (.exit i, e', h') | r => r)
    | .loop a => (match xcode P nt call n a e h with | some (.normal, e', h') => xcode P nt call n (.loop a) e' h' | r => r)
    | .scope a => xcode P nt call n a e h
    | .exit id => some (.exit id, e, h)
    | .label _ => some (.normal, e, h)
    | .ret => some (.ret, e, h)
    | .rangeFunc g ps a b =>
      (match xev e g with
      | .func (.func gf) ⟨first⟩ ⟨cap⟩ =>
        (match h.push (.loop .ready none 0 (envL e (minusN (unN (gens a) (gens b)) ps.toList)) nt ps a b) with
        | some h1 =>
          (match call (.func gf) (first ++ [.func (.yield h.n) #[] #[]] ++ cap) h1 with
          | some (_, h2) => xrangeEnd h.n e h2
          | none => none)
        | none => none)
      | _ => none)
    | _ => none

section
variable {P : Program} {nt : Nat} {call : XCall}

theorem lk_envL (e : XEnv) : ∀ (l : List Nat) (t : Nat), lk (envL e l) t = XEnv.lk e t ∨ lk (envL e l) t = anyV
  | [], t => .inr rfl
  | x :: l, t => by
    simp only [envL, lk]
    cases hb : Nat.beq x t with
    | true => rw [Nat.eq_of_beq_eq_true hb]; exact .inl rfl
    | false => exact lk_envL e l t

theorem xrangeEnd_sound {l : Nat} {e : XEnv} {h : XHeap} {H : IHeap} {r : IExit × XEnv × XHeap} (hr : RepH H h) (hx : xrangeEnd l e h = some r) :
    r.2.1 = e ∧ ∃ H', RepH H' r.2.2 ∧ ∀ Q : IExit → IHeap → Prop, Q r.1 H' → rangeEnd l H Q := by
  unfold xrangeEnd at hx
  split at hx
  · rename_i st pend fn tm nt ps as bd hg
    obtain ⟨hb, hx⟩ := bif_some hx
    have hst : st ≠ .busy := by intro h; subst h; cases hb
    split at hx
    · rename_i h' hs
      have hrep := set_rep hr hs
      split at hx
      · cases hx; exact ⟨rfl, _, hrep, fun Q hq => ⟨st, none, fn, tm, nt, ps, as, bd, (hr.2 l).trans hg, hst, hq⟩⟩
      · cases hx; exact ⟨rfl, _, hrep, fun Q hq => ⟨st, _, fn, tm, nt, ps, as, bd, (hr.2 l).trans hg, hst, hq⟩⟩
      · cases hx; exact ⟨rfl, _, hrep, fun Q hq => ⟨st, _, fn, tm, nt, ps, as, bd, (hr.2 l).trans hg, hst, hq⟩⟩
      · cases hx
    · cases hx
  · cases hx


theorem loop_step0 {ro : Option Nat} {c : Code} {Q : IExit → Env → IHeap → Prop} {env : Env} {H : IHeap} (h : IW ro P nt c (thn (fun env H => LW ro P nt c Q env H) Q) env H) : LW ro P nt c Q env H := by
  intro n0 β w a S hT hM b k cs hro hb hr
  obtain ⟨e, a₁, w₁, hq, harr⟩ := h n0 β w a S hT hM b (.inLoop c :: k) cs hro hb hr
  cases e with
  | normal =>
    obtain ⟨β', H', env', St, S', hT', hM', hn⟩ := hq
    obtain ⟨e₂, a₂, w₂, hq₂, harr₂⟩ := hn n0 β' w₁ a₁ S' hT' hM' b k cs hro hb hr
    exact ⟨e₂, a₂, w₂, hq₂.trans St, .of_steps (StepsIn.trans harr (.one (fenced_calm hb hr rfl) stepR_inLoop)) harr₂⟩
  | exit id => exact ⟨.exit id, a₁, w₁, hq, .pass (x := .inLoop c) rfl (fun _ _ => .inl (by simp)) harr⟩
  | goto l => exact hq.elim
  | ret => exact ⟨.ret, a₁, w₁, hq, .pass (x := .inLoop c) rfl (fun _ _ => .inl (by simp)) harr⟩
  | panic ch => exact ⟨.panic ch, a₁, w₁, hq, .pass (x := .inLoop c) rfl (fun _ _ => .inl (by simp)) harr⟩
  | outgrown => exact hq.elim

theorem loop_of0 {ro : Option Nat} {c : Code} {Q : IExit → Env → IHeap → Prop} {env : Env} {H : IHeap} (h : LW ro P nt c Q env H) : IW ro P nt (.loop c) Q env H := by
  intro n0 β w a S hT hM b k cs hro hb hr
  obtain ⟨e, a', w', hq, harr⟩ := h n0 β w a S hT hM b k cs hro hb hr
  exact ⟨e, a', w', hq, .of_steps (.one (fenced_calm hb hr rfl) stepR_loop) harr⟩

theorem seq_of {ro : Option Nat} {x y : Code} {Q : IExit → Env → IHeap → Prop} {env : Env} {H : IHeap} (h : IW ro P nt x (thn (fun env H => IW ro P nt y Q env H) Q) env H) : IW ro P nt (.seq x y) Q env H := by
  intro n0 β w a S hT hM
  refine wpIn_seq (wpIn_mono (h n0 β w a S hT hM) fun e a' w' hq => ?_)
  cases e with
  | normal =>
    obtain ⟨β', H', env', St, S', hT', hM', hn⟩ := hq
    exact wpIn_mono (hn n0 β' w' a' S' hT' hM') fun e a w hq => hq.trans St
  | exit id => exact hq
  | goto l => exact hq
  | ret => exact hq
  | panic ch => exact hq
  | outgrown => exact hq

theorem cond_of {ro : Option Nat} {c : Operand} {x y : Code} {t : Bool} {Q : IExit → Env → IHeap → Prop} {env : Env} {H : IHeap} (hok : okOpd nt c = true) (hc : iev env c = .bool t) (h : IW ro P nt (if t then x else y) Q env H) : IW ro P nt (.cond c x y) Q env H := by
  intro n0 β w a S hT hM
  have hc' := iev_rel (a := a) hT hok
  rw [hc] at hc'
  exact wpIn_cond hc'.inv_bool (h n0 β w a S hT hM)

theorem block_of {ro : Option Nat} {id : Nat} {x : Code} {Q : IExit → Env → IHeap → Prop} {env : Env} {H : IHeap} (h : IW ro P nt x (inB id Q) env H) : IW ro P nt (.block id x) Q env H := by
  intro n0 β w a S hT hM
  refine wpIn_block (wpIn_mono (h n0 β w a S hT hM) fun e a' w' hq => ?_)
  cases e with
  | normal => exact hq
  | exit i =>
    obtain ⟨β', H', env', St, S', hT', hM', hn⟩ := hq
    simp only [inB] at hn
    by_cases e : i = id
    · subst e
      simp only [Nat.beq_refl, cond_true] at hn
      simp only [Exit.inBlock, if_true]
      exact ⟨β', H', env', St, S', hT', hM', hn⟩
    · rw [beq_false e] at hn
      simp only [Exit.inBlock, e, if_false]
      exact ⟨β', H', env', St, S', hT', hM', hn⟩
  | goto l => exact hq
  | ret => exact hq
  | panic ch => exact hq
  | outgrown => exact hq

theorem xcode_sound {ro : Option Nat} {rf : Bool} (hro : rf = true → ro = none) (hm : P.follows .mixedOrders = true) (hc : CallOk P call) : ∀ (n : Nat),
    (∀ (c : Code) (H : IHeap) (h : XHeap) (env : Env) (e : XEnv) (r : IExit × XEnv × XHeap), codeOk P nt rf c = true → RepE env e → RepH H h → xcode P nt call n c e h = some r →
      ∃ env' H', RepE env' r.2.1 ∧ RepH H' r.2.2 ∧ ∀ Q : IExit → Env → IHeap → Prop, Q r.1 env' H' → IW ro P nt c Q env H) ∧
    (∀ (c : Code) (H : IHeap) (h : XHeap) (env : Env) (e : XEnv) (r : IExit × XEnv × XHeap), codeOk P nt rf c = true → RepE env e → RepH H h → xcode P nt call n (.loop c) e h = some r →
      ∃ env' H', RepE env' r.2.1 ∧ RepH H' r.2.2 ∧ ∀ Q : IExit → Env → IHeap → Prop, Q r.1 env' H' → LW ro P nt c Q env H)
  | 0 => ⟨(fun c H h env e r _ _ _ hx => by cases hx), (fun c H h env e r _ _ _ hx => by cases hx)⟩
  | n + 1 => by
    obtain ⟨ihA, ihB⟩ := xcode_sound hro hm hc n
    have B : ∀ (c : Code) (H : IHeap) (h : XHeap) (env : Env) (e : XEnv) (r : IExit × XEnv × XHeap), codeOk P nt rf c = true → RepE env e → RepH H h → xcode P nt call (n + 1) (.loop c) e h = some r →
        ∃ env' H', RepE env' r.2.1 ∧ RepH H' r.2.2 ∧ ∀ Q : IExit → Env → IHeap → Prop, Q r.1 env' H' → LW ro P nt c Q env H := by
      intro c H h env e r hok he hr hx
      simp only [xcode] at hx
      split at hx
      · rename_i e' h' ha
        obtain ⟨env1, H1, g1, g2, g3⟩ := ihA c H h env e _ hok he hr ha
        obtain ⟨env2, H2, k1, k2, k3⟩ := ihB c H1 h' env1 e' r hok g1 g2 hx
        exact ⟨env2, H2, k1, k2, fun Q hq => loop_step0 (g3 _ (k3 Q hq))⟩
      · rename_i hn
        obtain ⟨env1, H1, g1, g2, g3⟩ := ihA c H h env e _ hok he hr hx
        refine ⟨env1, H1, g1, g2, fun Q hq => loop_step0 (g3 _ ?_)⟩
        obtain ⟨x, e', h'⟩ := r
        cases x with
        | normal => exact (hn _ _ hx).elim
        | _ => exact hq
    refine ⟨?_, B⟩
    intro c H h env e r hok he hr hx
    have stay : ∀ {x : IExit}, (some (x, e, h) : Option (IExit × XEnv × XHeap)) = some r → (∀ Q : IExit → Env → IHeap → Prop, Q x env H → IW ro P nt c Q env H) → ∃ env' H', RepE env' r.2.1 ∧ RepH H' r.2.2 ∧ ∀ Q : IExit → Env → IHeap → Prop, Q r.1 env' H' → IW ro P nt c Q env H := by
      intro x hx hQ
      cases hx
      exact ⟨env, H, he, hr, hQ⟩
    cases c with
    | skip => exact stay hx fun Q hq n0 β w a S hT hM => wpIn_skip ⟨β, H, env, Step.refl _ _, S, hT, hM, hq⟩
    | exit id => exact stay hx fun Q hq n0 β w a S hT hM => wpIn_exit ⟨β, H, env, Step.refl _ _, S, hT, hM, hq⟩
    | label l => exact stay hx fun Q hq n0 β w a S hT hM => wpIn_label ⟨β, H, env, Step.refl _ _, S, hT, hM, hq⟩
    | ret => exact stay hx fun Q hq n0 β w a S hT hM => wpIn_ret ⟨β, H, env, Step.refl _ _, S, hT, hM, hq⟩
    | region id ops draws =>
      cases draws with
      | false =>
        simp only [xcode] at hx
        split at hx
        · rename_i e' h' ho
          cases hx
          obtain ⟨env', H', g1, g2, g3⟩ := xops_sound hc _ he hr ho
          exact ⟨env', H', g1, g2, fun Q hq => region_sound hok (g3 _ _ hq)⟩
        · cases hx
      | true =>
        simp only [xcode] at hx
        split at hx
        · rename_i e' h' ho
          cases hx
          obtain ⟨env', H', g1, g2, g3⟩ := xopsD_sound hc _ he hr .nil ho
          exact ⟨env', H', g1, g2, fun Q hq => draw_sound hm hok (g3 _ _ hq)⟩
        · cases hx
    | seq x y =>
      simp only [codeOk, Bool.and_eq_true] at hok
      simp only [xcode] at hx
      split at hx
      · rename_i e' h' ha
        obtain ⟨env1, H1, g1, g2, g3⟩ := ihA x H h env e _ hok.1 he hr ha
        obtain ⟨env2, H2, k1, k2, k3⟩ := ihA y H1 h' env1 e' r hok.2 g1 g2 hx
        exact ⟨env2, H2, k1, k2, fun Q hq => seq_of (g3 _ (k3 Q hq))⟩
      · rename_i hn
        obtain ⟨env1, H1, g1, g2, g3⟩ := ihA x H h env e _ hok.1 he hr hx
        refine ⟨env1, H1, g1, g2, fun Q hq => seq_of (g3 _ ?_)⟩
        obtain ⟨x', e', h'⟩ := r
        cases x' with
        | normal => exact (hn _ _ hx).elim
        | _ => exact hq
    | cond c x y =>
      simp only [codeOk, Bool.and_eq_true] at hok
      simp only [xcode] at hx
      have hev := xev_eq he c
      split at hx
      · rename_i hc'
        obtain ⟨env1, H1, g1, g2, g3⟩ := ihA x H h env e _ hok.1.2 he hr hx
        exact ⟨env1, H1, g1, g2, fun Q hq => cond_of hok.1.1 (hev.trans hc') (g3 Q hq)⟩
      · rename_i hc'
        obtain ⟨env1, H1, g1, g2, g3⟩ := ihA y H h env e _ hok.2 he hr hx
        exact ⟨env1, H1, g1, g2, fun Q hq => cond_of hok.1.1 (hev.trans hc') (g3 Q hq)⟩
      · cases hx
    | block id x =>
      simp only [codeOk] at hok
      simp only [xcode] at hx
      split at hx
      · rename_i i e' h' ha
        obtain ⟨env1, H1, g1, g2, g3⟩ := ihA x H h env e _ hok he hr ha
        cases hb : Nat.beq i id with
        | true =>
          rw [hb] at hx
          cases hx
          exact ⟨env1, H1, g1, g2, fun Q hq => block_of (g3 _ (by simp only [inB, hb, cond_true]; exact hq))⟩
        | false =>
          rw [hb] at hx
          cases hx
          exact ⟨env1, H1, g1, g2, fun Q hq => block_of (g3 _ (by simp only [inB, hb, cond_false]; exact hq))⟩
      · rename_i hn
        obtain ⟨env1, H1, g1, g2, g3⟩ := ihA x H h env e _ hok he hr hx
        refine ⟨env1, H1, g1, g2, fun Q hq => block_of (g3 _ ?_)⟩
        obtain ⟨x', e', h'⟩ := r
        cases x' with
        | exit i => exact (hn _ _ _ hx).elim
        | _ => exact hq
    | loop x =>
      simp only [codeOk] at hok
      obtain ⟨env1, H1, g1, g2, g3⟩ := B x H h env e r hok he hr hx
      exact ⟨env1, H1, g1, g2, fun Q hq => loop_of0 (g3 Q hq)⟩
    | scope x =>
      simp only [codeOk] at hok
      simp only [xcode] at hx
      obtain ⟨env1, H1, g1, g2, g3⟩ := ihA x H h env e r hok he hr hx
      exact ⟨env1, H1, g1, g2, fun Q hq => scope_of (g3 Q hq)⟩
    | rangeFunc g ps a b =>
      simp only [xcode] at hx
      split at hx
      · rename_i gf first cap hg
        split at hx
        · rename_i h1 hp
          split at hx
          · rename_i v h2 hcall
            simp only [codeOk, Bool.and_eq_true] at hok
            have hrf : rf = true := hok.1.1.1.1
            have hro' := hro hrf
            subst hro'
            obtain ⟨H2, hr2, hcl⟩ := hc _ _ _ _ _ hcall _ (push_rep hr hp)
            obtain ⟨e1, H3, hr3, hend⟩ := xrangeEnd_sound hr2 hx
            refine ⟨env, H3, by rw [e1]; exact he, hr3, fun Q hq => ?_⟩
            refine range_of hok.1.1.1.2 ((xev_eq he g).trans hg) (tm := envL e (minusN (unN (gens a) (gens b)) ps.toList)) (fun t => by rw [he t]; exact lk_envL e _ t) ?_
            rw [pos_end, newO_end, hr.1]
            refine (hcl : ICalls P gf _ _ _).mono fun e' H' hh => ?_
            obtain ⟨rfl, rfl⟩ := hh
            exact hend _ hq
          · cases hx
        · cases hx
      · cases hx
    | _ => cases hx

end
end Ide

/- A reckoner for the ideal meaning: functions. -/
set_option linter.unusedVariables false
set_option linter.unusedSimpArgs false
namespace Ide
open Go Go.RowKit

def xres (P : Program) : List ResultVar → XEnv → XHeap → List Value → Option (List Value)
  | [], _, _, acc => some acc
  | .tmp t :: r, e, h, acc => xres P r e h (acc ++ [XEnv.lk e t])
  | .cell a t :: r, e, h, acc => (match xptr (XEnv.lk e a) with | some (i, o) => (match xload P t h i o with | some v => xres P r e h (acc ++ [v]) | none => none) | none => none)

def xenv : Nat → List Value → XEnv → Option XEnv
  | _, [], e => some e
  | i, v :: vs, e => (match Tr.set 20 e i v with | some e' => xenv (i + 1) vs e' | none => none)

/-- The text of a function is fit. -/
def fnOk (P : Program) (f : FuncId) : Bool :=
  match P.funcs[f]? with
  | some fn =>
    (match fn.body with
    | some c => !(fn.name == "runtime.NumGoroutine") && codeOk P fn.ntmps true c && fn.results.toList.all (okRes fn.ntmps)
    | none => false)
  | none => false

/-- An environment as a tree. -/
def xofL : Env → Option XEnv
  | [] => some .nil
  | (t, v) :: r => (match xofL r with | some e => Tr.set 20 e t v | none => none)

def xroundEnd (l : Nat) (x : IExit) (h : XHeap) : Option (Value × XHeap) :=
  match h.t.get l with
  | some (.loop _ _ fn tm nt ps as bd) =>
    (match x with
    | .normal => (match h.set l (.loop .ready none fn tm nt ps as bd) with | some h' => some (.bool true, h') | none => none)
    | .ret => (match h.set l (.loop .done (some .ret) fn tm nt ps as bd) with | some h' => some (.bool false, h') | none => none)
    | .exit id => (match h.set l (.loop .done (some (.exit id)) fn tm nt ps as bd) with | some h' => some (.bool false, h') | none => none)
    | .panic _ => none)
  | _ => none

/-- A round. -/
def xround (P : Program) (fuel : Nat) (call : XCall) (l : Nat) (args : List Value) (h : XHeap) : Option (Value × XHeap) :=
  match h.t.get l with
  | some (.loop st pend fn tm nt ps as bd) =>
    bif Nat.beq args.length ps.size && ps.toList.all (Nat.blt · nt) && codeOk P nt false as && codeOk P nt false bd then
      (match xofL (putAll ps.toList args tm) with
      | some e =>
        (match xcode P nt call fuel as e h with
        | some (.normal, e1, h1) =>
          (match h1.t.get l with
          | some (.loop .ready none fn1 tm1 nt1 ps1 as1 bd1) =>
            (match h1.set l (.loop .busy none fn1 tm1 nt1 ps1 as1 bd1) with
            | some h2 => (match xcode P nt call fuel bd e1 h2 with | some (x, _, h3) => xroundEnd l x h3 | none => none)
            | none => none)
          | _ => none)
        | _ => none)
      | none => none)
    else none
  | _ => none

/-- Calls, of functions of a list, so and so deep, with so much fuel each. -/
def xfun (P : Program) (ok : List FuncId) (fuel : Nat) : Nat → XCall
  | d + 1, .yield l, args, h => xround P fuel (xfun P ok fuel d) l args h
  | d + 1, .func f, args, h =>
    bif memN f ok then
      match P.funcs[f]? with
      | some fn =>
        (match fn.body with
        | some c =>
          bif Nat.ble args.length fn.ntmps then
            (match xenv 0 args .nil with
            | some e =>
              (match xcode P fn.ntmps (xfun P ok fuel d) fuel c e h with
              | some (.normal, e', h') => (match xres P fn.results.toList e' h' [] with | some vs => some (oneV vs, h') | none => none)
              | some (.ret, e', h') => (match xres P fn.results.toList e' h' [] with | some vs => some (oneV vs, h') | none => none)
              | _ => none)
            | none => none)
          else none
        | none => none)
      | none => none
    else none
  | _, _, _, _ => none

section
variable {P : Program}

theorem repH_eq {H H' : IHeap} {h : XHeap} (a : RepH H h) (b : RepH H' h) : H = H' := List.ext_getElem? fun i => (a.2 i).trans (b.2 i).symm

theorem xres_sound {H : IHeap} {h : XHeap} {env : Env} {e : XEnv} (he : RepE env e) (hr : RepH H h) : ∀ (rs : List ResultVar) (acc vs : List Value), xres P rs e h acc = some vs → ∀ K : List Value → Prop, K vs → resGo P rs env H acc K
  | [], acc, vs, hx, K, hk => by cases hx; exact hk
  | .tmp t :: r, acc, vs, hx, K, hk => by
    simp only [xres] at hx
    simp only [resGo]
    rw [he t]
    exact xres_sound he hr r _ _ hx K hk
  | .cell a t :: r, acc, vs, hx, K, hk => by
    simp only [xres] at hx
    simp only [resGo]
    rw [he a]
    split at hx
    · rename_i i o hp
      rw [xptr_sound hp]
      split at hx
      · rename_i v hv
        exact xload_sound hr hv (K := fun v => resGo P r env H (acc ++ [v]) K) (xres_sound he hr r _ _ hx K hk)
      · cases hx
    · cases hx

theorem xenv_rep : ∀ (vs : List Value) (i : Nat) (e e' : XEnv), xenv i vs e = some e' → ∀ t, XEnv.lk e' t = if i ≤ t ∧ t < i + vs.length then lk (envOf i vs) t else XEnv.lk e t
  | [], i, e, e', hx, t => by cases hx; rw [if_neg (by simp)]
  | v :: vs, i, e, e', hx, t => by
    simp only [xenv] at hx
    split at hx
    · rename_i e1 h1
      rw [xenv_rep vs (i + 1) e1 e' hx t]
      have hget := Tr.get_set 20 e i v e1 h1 t
      have hlk : XEnv.lk e1 t = if t = i then v else XEnv.lk e t := by
        unfold XEnv.lk
        rw [hget]
        by_cases h : t = i <;> simp [h]
      by_cases h : i = t
      · subst h
        rw [if_neg (by omega), if_pos (by simp), hlk, if_pos rfl]
        simp [envOf, lk]
      · have hne : t ≠ i := fun e => h e.symm
        have hl : lk (envOf i (v :: vs)) t = lk (envOf (i + 1) vs) t := by simp only [envOf, lk]; rw [beq_false h]; rfl
        rw [hl, hlk, if_neg hne]
        by_cases h2 : i + 1 ≤ t ∧ t < i + 1 + vs.length
        · rw [if_pos h2, if_pos (by simp only [List.length_cons]; omega)]
        · rw [if_neg h2, if_neg (by simp only [List.length_cons]; omega)]
    · cases hx

theorem xofL_rep : ∀ (l : Env) (e : XEnv), xofL l = some e → RepE l e
  | [], e, hx => by cases hx; intro t; simp [lk, XEnv.lk, Tr.get]
  | (s, v) :: r, e, hx => by
    simp only [xofL] at hx
    split at hx
    · rename_i e' h'
      intro t
      have hget := Tr.get_set 20 e' s v e hx t
      have ih := xofL_rep r e' h' t
      simp only [lk]
      unfold XEnv.lk
      rw [hget]
      by_cases h : s = t
      · subst h; simp
      · rw [beq_false h, cond_false, ih, if_neg (fun e => h e.symm)]
        rfl
    · cases hx

theorem xroundEnd_sound {l : Nat} {x : IExit} {h : XHeap} {H : IHeap} {r : Value × XHeap} (hr : RepH H h) (hx : xroundEnd l x h = some r) :
    ∃ H', RepH H' r.2 ∧ ∀ (R : IEnd → IHeap → Prop) (env : Env), R (.ret r.1) H' → roundEnd l R x env H := by
  unfold xroundEnd at hx
  split at hx
  · rename_i st pend fn tm nt ps as bd hg
    split at hx
    · split at hx
      · rename_i h' hs
        cases hx
        exact ⟨_, set_rep hr hs, fun R env hR => ⟨_, _, fn, tm, nt, ps, as, bd, (hr.2 l).trans hg, hR⟩⟩
      · cases hx
    · split at hx
      · rename_i h' hs
        cases hx
        exact ⟨_, set_rep hr hs, fun R env hR => ⟨_, _, fn, tm, nt, ps, as, bd, (hr.2 l).trans hg, hR⟩⟩
      · cases hx
    · split at hx
      · rename_i h' hs
        cases hx
        exact ⟨_, set_rep hr hs, fun R env hR => ⟨_, _, fn, tm, nt, ps, as, bd, (hr.2 l).trans hg, hR⟩⟩
      · cases hx
    · cases hx
  · cases hx

theorem xround_sound (hm : P.follows .mixedOrders = true) {fuel : Nat} {call : XCall} (hc : CallOk P call) {l : Nat} {args : List Value} {h h' : XHeap} {v : Value} (hx : xround P fuel call l args h = some (v, h')) {H : IHeap} (hr : RepH H h) :
    ∃ H', RepH H' h' ∧ IYield P l args H (fun e H'' => e = .ret v ∧ H'' = H') := by
  unfold xround at hx
  split at hx
  · rename_i st pend fn tm nt ps as bd hg
    obtain ⟨hb, hx⟩ := bif_some hx
    simp only [Bool.and_eq_true] at hb
    split at hx
    · rename_i e he
      split at hx
      · rename_i e1 h1 hxa
        split at hx
        · rename_i fn1 tm1 nt1 ps1 as1 bd1 hg1
          split at hx
          · rename_i h2 hs2
            split at hx
            · rename_i x e3 h3 hxb
              have A := fun ro => (xcode_sound (nt := nt) (ro := some ro) (rf := false) (fun h => by cases h) hm hc fuel).1 as H h (putAll ps.toList args tm) e _ hb.1.2 (xofL_rep _ _ he) hr hxa
              -- the environments behind the parts do not hang on the place of the record: they are found once
              obtain ⟨env1, H1, g1, g2, -⟩ := A 0
              have B := fun (env1 : Env) (H1 : IHeap) (g1 : RepE env1 e1) (g2 : RepH H1 h1) ro => (xcode_sound (nt := nt) (ro := some ro) (rf := false) (fun h => by cases h) hm hc fuel).1 bd _ h2 env1 e1 _ hb.2 g1 (set_rep g2 hs2) hxb
              obtain ⟨env3, H3, k1, k2, -⟩ := B env1 H1 g1 g2 0
              obtain ⟨H', r1, r2⟩ := xroundEnd_sound k2 hx
              refine ⟨H', r1, st, pend, fn, tm, nt, ps, as, bd, (hr.2 l).trans hg, Nat.eq_of_beq_eq_true hb.1.1.1, hb.1.1.2, fun fn' => iround_of fun ro => ?_⟩
              obtain ⟨env1', H1', g1', g2', g3'⟩ := A ro
              refine g3' _ ⟨fn1, tm1, nt1, ps1, as1, bd1, (g2'.2 l).trans hg1, ?_⟩
              obtain ⟨env3', H3', k1', k2', k3'⟩ := B env1' H1' g1' g2' ro
              refine k3' _ ?_
              have e3 : H3' = H3 := repH_eq k2' k2
              rw [e3]
              exact r2 _ env3' ⟨rfl, rfl⟩
            · cases hx
          · cases hx
        · cases hx
      · cases hx
    · cases hx
  · cases hx

theorem xfun_sound (hm : P.follows .mixedOrders = true) {ok : List FuncId} (hok : ok.all (fnOk P) = true) (fuel : Nat) : ∀ d, CallOk P (xfun P ok fuel d)
  | 0 => by intro g args h v h' hx; cases g <;> cases hx
  | d + 1 => by
    intro F args h v h' hx H hr
    have ih := xfun_sound hm hok fuel d
    cases F with
    | yield l => exact xround_sound hm ih hx hr
    | method n => cases hx
    | methodOf t n => cases hx
    | via t n f => cases hx
    | func f =>
    show ∃ H', RepH H' h' ∧ ICalls P f args H (fun e H'' => e = .ret v ∧ H'' = H')
    simp only [xfun] at hx
    obtain ⟨hmem, hx⟩ := bif_some hx
    have hfn : fnOk P f = true := by
      have key : ∀ l : List FuncId, memN f l = true → f ∈ l := by
        intro l
        induction l with
        | nil => intro h; cases h
        | cons x l ih =>
          intro h
          simp only [memN] at h
          cases hb : Nat.beq x f with
          | true => rw [Nat.eq_of_beq_eq_true hb]; simp
          | false => rw [hb] at h; exact List.mem_cons_of_mem _ (ih h)
      exact List.all_eq_true.1 hok f (key ok hmem)
    unfold fnOk at hfn
    split at hx
    · rename_i fn h1
      simp only [h1] at hfn
      split at hx
      · rename_i c h2
        simp only [h2, Bool.and_eq_true, Bool.not_eq_true'] at hfn
        obtain ⟨hlen, hx⟩ := bif_some hx
        have hF : funcOk P f fn c args.length := ⟨h1, h2, hfn.1.1, hfn.1.2, hfn.2, Nat.le_of_ble_eq_true hlen⟩
        split at hx
        · rename_i e he
          have hrep : RepE (envOf 0 args) e := by
            intro t
            rw [xenv_rep args 0 .nil e he t]
            by_cases h : t < args.length
            · rw [if_pos (by omega)]
            · rw [if_neg (by omega), lk_envOf, if_pos (Nat.zero_le _), Nat.sub_zero, List.getElem?_eq_none (by omega)]; rfl
          have hcode := fun r hx' => (xcode_sound (nt := fn.ntmps) (ro := none) (rf := true) (fun _ => rfl) hm ih fuel).1 c H h (envOf 0 args) e r hfn.1.2 hrep hr hx'
          split at hx
          · rename_i e' h'' hxc
            obtain ⟨env', H', g1, g2, g3⟩ := hcode _ hxc
            split at hx
            · rename_i vs hvs
              cases hx
              refine ⟨H', g2, icalls_of_iw hF (g3 _ ?_)⟩
              exact xres_sound g1 g2 _ _ _ hvs _ ⟨rfl, rfl⟩
            · cases hx
          · rename_i e' h'' hxc
            obtain ⟨env', H', g1, g2, g3⟩ := hcode _ hxc
            split at hx
            · rename_i vs hvs
              cases hx
              refine ⟨H', g2, icalls_of_iw hF (g3 _ ?_)⟩
              exact xres_sound g1 g2 _ _ _ hvs _ ⟨rfl, rfl⟩
            · cases hx
          · cases hx
        · cases hx
      · cases hx
    · cases hx

end
end Ide

/- From the ideal meaning to the row's call. -/
set_option linter.unusedVariables false
set_option linter.unusedSimpArgs false
namespace Ide
open Go Go.RowKit

theorem calls_true {P : Program} {f : FuncId} {args : List Value} {H : IHeap} {args' : Array Value} {W : World} {β : Emb} (h : ICalls P f args H (fun e _ => e = .ret (.bool true))) (S : Sim β H W) (hw : β.w0 = W) (ha : VsRel β.loc args args'.toList) :
    Calls P f args' W fun e W' => e = .returned (.bool true) ∧ Below W.heap.size W W' := by
  refine callsIn_wide.1 ((h.2 β W args' S ha).mono fun e W' hA => ?_)
  obtain ⟨β', H', St, S', hE⟩ := hA
  have hb := S'.below
  rw [St.le.1.1, hw] at hb
  refine ⟨?_, hb⟩
  match e, hE with
  | .returned v', ⟨v, hv, he⟩ =>
    injection he with he
    subst he
    rw [hv.inv_bool]
  | .panicked chain, ⟨v, v', _, _, he⟩ => cases he

/-- The empty ideal heap. -/
theorem sim_nil (W : World) : Sim { w0 := W, loc := fun _ => none, held := fun _ => False } [] W where
  below := Below.refl _ _
  dom := fun id l h => by cases h
  held := fun id h => h.elim
  blk := fun id l h => by cases h
  obj := fun id l o h => by cases h
  inj := fun i j l l' o o' h => by cases h

/-- A call without arguments, as reckoned. -/
theorem calls_reckoned {P : Program} {f : FuncId} {ok : List FuncId} {fuel d : Nat} {h' : XHeap} (hm : P.follows .mixedOrders = true) (hok : ok.all (fnOk P) = true) (hx : xfun P ok fuel d (.func f) [] ⟨0, .nil⟩ = some (.bool true, h')) (W : World) :
    Calls P f #[] W fun e W' => e = .returned (.bool true) ∧ Below W.heap.size W W' := by
  obtain ⟨H', _, hc⟩ := xfun_sound hm hok fuel d _ _ _ _ _ hx [] ⟨rfl, fun i => by simp [Tr.get]⟩
  exact calls_true (ICalls.mono (show ICalls P f [] [] _ from hc) fun e H' h => h.1) (sim_nil W) rfl .nil

/-- The same, of a test. -/
def xtrue (P : Program) (ok : List FuncId) (fuel d : Nat) (f : FuncId) : Bool :=
  match xfun P ok fuel d (.func f) [] ⟨0, .nil⟩ with
  | some (.bool true, _) => true
  | _ => false
theorem calls_xtrue {P : Program} {f : FuncId} {ok : List FuncId} {fuel d : Nat} (hm : P.follows .mixedOrders = true) (hok : ok.all (fnOk P) = true) (hx : xtrue P ok fuel d f = true) (W : World) :
    Calls P f #[] W fun e W' => e = .returned (.bool true) ∧ Below W.heap.size W W' := by
  unfold xtrue at hx
  split at hx
  · rename_i h' hh
    exact calls_reckoned hm hok hh W
  · cases hx

end Ide
